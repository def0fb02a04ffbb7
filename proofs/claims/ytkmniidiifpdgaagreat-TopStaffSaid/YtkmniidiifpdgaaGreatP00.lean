/- Made by program: of our texts what this law needs (Eng.A Eng.B Eng.C Eng.D Eng.E Eng.F Eng.G Eng.H Eng.I Eng.J Eng.K Eng.L Eng.M Eng.N Eng.NA Eng.O Eng.P). -/
import Derived.Calls
import Derived.Recover
import Derived.Laws.Sem
import Derived.Laws.World
import Derived.Laws.Cells
import Derived.Laws.StructEq
import Derived.Laws.Slices
import Derived.Laws.MakeOwn
import Derived.Laws.BytesString
import Derived.Conc.LoneSelect
import Derived.Orders
set_option linter.unusedVariables false
namespace Go.Eng
def ZF7:Value→Bool
 | .agg _|.tuple _=>false
 | _=>true
abbrev Hp:=Nat→Option Obj
def Hp.le (h:Hp) (w:World):Prop:=∀ b o,h b=some o→w.heap[b]?=some o
def Hp.dj (h g:Hp):Prop:=∀ b,h b=none∨g b=none
def Hp.emp:Hp:=fun _=>none
def Hp.un (h g:Hp):Hp:=fun b=>match h b with|some o=>some o|none=>g b
def Hp.one (b:Nat) (o:Obj):Hp:=fun b'=>if b'=b then some o else none
def Hp.upd (h:Hp) (b:Nat) (o:Obj):Hp:=fun b'=>if b'=b then some o else h b'
structure ZFx (w w':World):Prop where
 os:w'.os=w.os
 tape:w'.tape=w.tape
 output:w'.output=w.output
theorem ZFx.refl (w:World):ZFx w w:=⟨rfl,rfl,rfl⟩
theorem ZFx.trans {a b c:World} (h:ZFx a b) (k:ZFx b c):ZFx a c:=⟨k.os.trans h.os,k.tape.trans h.tape,k.output.trans h.output⟩
def ZG4 (P:Program) (f:FuncId) (args:Array Value) (h:Hp) (R:Value→Hp→Prop):Prop:=
 ∀ (w:World) (fr:Hp),h.le w→fr.le w→h.dj fr→
  Calls P f args w fun e w'=>∃ v h',e=.returned v∧R v h'∧h'.le w'∧fr.le w'∧h'.dj fr∧ZFx w w'
def ZR6 (P:Program) (f:FuncId) (args:Array Value) (h:Hp) (R S:Value→Hp→Prop):Prop:=
 ∀ (w:World) (fr:Hp),h.le w→fr.le w→h.dj fr→
  Calls P f args w fun e w'=>∃ v h',((e=.returned v∧R v h')∨(e=.panicked [{v,recovered:=false}]∧S v h'))∧h'.le w'∧fr.le w'∧h'.dj fr∧ZFx w w'
def ZVp (P:Program) (f:FuncId) (args:Array Value) (u u':FrameMode) (h:Hp) (R:Hp→Prop):Prop:=
 ∀ (w:World) (fr:Hp),h.le w→fr.le w→h.dj fr→
  CallsD P f args u w fun e u2 w'=>∃ v h',e=.returned v∧u2=u'∧R h'∧h'.le w'∧fr.le w'∧h'.dj fr∧ZFx w w'
theorem ZG4.mono {P:Program} {f:FuncId} {args:Array Value} {h:Hp} {R R':Value→Hp→Prop} (s:ZG4 P f args h R)
 (hr:∀ v h',R v h'→R' v h'):ZG4 P f args h R':=fun w fr a b c=>
 (s w fr a b c).mono fun _ _ ⟨v,h',he,hR,rest⟩=>⟨v,h',he,hr _ _ hR,rest⟩
theorem Hp.dj_symm {h g:Hp} (d:h.dj g):g.dj h:=fun b=>(d b).symm
theorem Hp.un_le {h g:Hp} {w:World} (a:h.le w) (b:g.le w):(h.un g).le w:=by
 intro k o hk
 unfold Hp.un at hk
 split at hk
 ·rename_i o' e; cases hk; exact a k _ e
 ·exact b k o hk
theorem Hp.un_dj {h g fr:Hp} (a:h.dj fr) (b:g.dj fr):(h.un g).dj fr:=by
 intro k
 rcases a k with e|e
 ·rcases b k with e'|e'
  ·left; simp [Hp.un,e,e']
  ·right; exact e'
 ·right; exact e
theorem Hp.dj_un {h g fr:Hp} (a:h.dj g) (b:h.dj fr):h.dj (g.un fr):=Hp.dj_symm (Hp.un_dj (Hp.dj_symm a) (Hp.dj_symm b))
theorem Hp.le_un_left {h g:Hp} {w:World} (a:(h.un g).le w):h.le w:=by
 intro k o hk
 exact a k o (by simp [Hp.un,hk])
theorem Hp.le_un_right {h g:Hp} {w:World} (d:h.dj g) (a:(h.un g).le w):g.le w:=by
 intro k o hk
 rcases d k with e|e
 ·exact a k o (by simp [Hp.un,e,hk])
 ·rw [hk] at e; cases e
theorem Hp.dj_un_left {h g fr:Hp} (a:(h.un g).dj fr):h.dj fr:=by
 intro k
 rcases a k with e|e
 ·left
  unfold Hp.un at e
  split at e
  ·cases e
  ·assumption
 ·exact .inr e
theorem Hp.dj_un_right {h g fr:Hp} (a:(h.un g).dj fr):g.dj fr:=by
 intro k
 rcases a k with e|e
 ·left
  unfold Hp.un at e
  split at e
  ·cases e
  ·exact e
 ·exact .inr e
@[simp] theorem Hp.emp_un (h:Hp):Hp.emp.un h=h:=rfl
@[simp] theorem Hp.un_emp (h:Hp):h.un Hp.emp=h:=by
 funext b; unfold Hp.un Hp.emp; cases h b<;>rfl
theorem ZG4.frame {P:Program} {f:FuncId} {args:Array Value} {h g:Hp} {R:Value→Hp→Prop} (s:ZG4 P f args h R) (d:h.dj g):
 ZG4 P f args (h.un g) fun v h'=>∃ h₁,R v h₁∧h'=h₁.un g∧h₁.dj g:=by
 intro w fr hle frle dj
 refine (s w (g.un fr) (Hp.le_un_left hle) (Hp.un_le (Hp.le_un_right d hle) frle) (Hp.dj_un d (Hp.dj_un_left dj))).mono ?_
 rintro e w' ⟨v,h',he,hR,a,b,c,sm⟩
 have dgf:g.dj fr:=Hp.dj_un_right dj
 have c1:h'.dj g:=Hp.dj_symm (Hp.dj_un_left (Hp.dj_symm c))
 have c2:h'.dj fr:=Hp.dj_symm (Hp.dj_un_right (Hp.dj_symm c))
 exact ⟨v,h'.un g,he,⟨h',hR,rfl,c1⟩,Hp.un_le a (Hp.le_un_left b),Hp.le_un_right dgf b,Hp.un_dj c2 dgf,sm⟩
theorem Hp.upd_le {h:Hp} {w:World} (a:h.le w) (o:Obj):(h.upd w.heap.size o).le (w.alloc o):=by
 intro k o' hk
 unfold Hp.upd at hk
 split at hk
 ·rename_i e; subst e; cases hk; show (w.heap.push o)[w.heap.size]?=_; simp
 ·rename_i e
  have:=a k o' hk
  rw [World.alloc]; show (w.heap.push o)[k]?=_
  rw [Array.getElem?_push,if_neg (by omega)]; exact this
theorem Hp.le_lt {h:Hp} {w:World} (a:h.le w) {k:Nat} (hk:w.heap.size≤k):h k=none:=by
 cases e:h k with
 | none=>rfl
 | some o=>have:=a k o e; rw [Array.getElem?_eq_none hk] at this; cases this
theorem Hp.le_alloc {h:Hp} {w:World} (a:h.le w) (o:Obj):h.le (w.alloc o):=by
 intro k o' hk
 have h1:=a k o' hk
 have:k<w.heap.size:=by
  rcases Nat.lt_or_ge k w.heap.size with h'|h'
  ·exact h'
  ·rw [Array.getElem?_eq_none h'] at h1; cases h1
 rw [World.alloc]; show (w.heap.push o)[k]?=_
 rw [Array.getElem?_push,if_neg (by omega)]; exact h1
theorem Hp.upd_dj {h fr:Hp} (d:h.dj fr) {b:Nat} (hb:fr b=none) (o:Obj):(h.upd b o).dj fr:=by
 intro k
 by_cases e:k=b
 ·subst e; exact .inr hb
 ·simp only [Hp.upd,if_neg e]; exact d k
def Hp.cell? (h:Hp) (a:Addr):Option Value:=
 match h a.block with
 | some (.cells c _ _)=>if a.spot.isSome then none else c[a.off]?
 | _=>none
def Hp.frozen? (h:Hp) (a:Addr):Bool:=
 match h a.block with
 | some (.cells _ _ (lo,hi))=>lo≤a.off&&a.off<hi
 | _=>false
def ZM9 (a:Addr) (v:Value):Obj→Obj
 | .cells c e fz=>.cells (if a.spot.isSome then c else c.setIfInBounds a.off v) e fz
 | o=>o
def Hp.setCell (h:Hp) (a:Addr) (v:Value):Hp:=fun b=>if b=a.block then (h b).map (ZM9 a v) else h b
theorem Hp.cell?_le {h:Hp} {w:World} (l:h.le w) {a:Addr} {v:Value} (e:h.cell? a=some v):w.cell? a=some v:=by
 unfold Hp.cell? at e
 unfold World.cell?
 cases hb:h a.block with
 | none=>rw [hb] at e; cases e
 | some o=>rw [hb] at e; rw [l _ _ hb]; exact e
theorem Hp.frozen?_le {h:Hp} {w:World} (l:h.le w) {a:Addr} {v:Value} (e:h.cell? a=some v):w.frozen? a=h.frozen? a:=by
 unfold Hp.cell? at e
 unfold World.frozen? Hp.frozen?
 cases hb:h a.block with
 | none=>rw [hb] at e; cases e
 | some o=>rw [l _ _ hb]; cases o<;>rfl
theorem World.heap_setCell (w:World) (a:Addr) (v:Value) (k:Nat):(w.setCell a v).heap[k]?=if k=a.block then (w.heap[k]?).map (ZM9 a v) else w.heap[k]?:=by
 simp only [World.setCell,Array.getElem?_modify]
 by_cases e:a.block=k
 ·subst e
  simp only [if_true]
  cases w.heap[a.block]? with
  | none=>rfl
  | some o=>cases o<;>rfl
 ·rw [if_neg e,if_neg (by omega)]
theorem Hp.setCell_le {h:Hp} {w:World} (l:h.le w) (a:Addr) (v:Value):(h.setCell a v).le (w.setCell a v):=by
 intro k o hk
 rw [World.heap_setCell]
 unfold Hp.setCell at hk
 split at hk
 ·rename_i e
  rw [if_pos e]
  cases hb:h k with
  | none=>rw [hb] at hk; cases hk
  | some o'=>rw [hb] at hk; rw [l _ _ hb]; exact hk
 ·rename_i e; rw [if_neg e]; exact l _ _ hk
theorem Hp.setCell_none {h:Hp} {a:Addr} {v:Value} {b:Nat}:(h.setCell a v) b=none↔h b=none:=by
 unfold Hp.setCell
 split<;>simp
theorem Hp.cell_block {h:Hp} {a:Addr} {v:Value} (e:h.cell? a=some v):h a.block≠none:=by
 unfold Hp.cell? at e
 intro hn; rw [hn] at e; cases e
def Hp.rds (h:Hp) (a:Addr) (cs:List Value):Prop:=∀ i v,cs[i]?=some v→h.cell? (a.add i)=some v
def Hp.wrs (h:Hp) (a:Addr):Nat→List Value→Hp
 | _,[]=>h
 | i,v::l=>(h.setCell (a.add i) v).wrs a (i+1) l
structure Cdc:Type 1 where
 T:Type
 enc:T→Value
 dec:Value→Option T
 agg:Bool
 n:Nat
 law:∀ v x,dec v=some x→enc x=v
 ecd:∀ x,dec (enc x)=some x
 mem:Bool
 form:mem=true→∀ x,if agg then ∃ cs:List Value,enc x=.agg cs.toArray∧cs.length=n∧∀ c∈cs,ZF7 c=true else ZF7 (enc x)=true∧n=1
inductive EV where
 | val (v:Value)
 | box (cs:List Value)
 | ref (off:Nat)
 | unk
abbrev Env:=Nat→EV
structure Ann:Type 1 where
 prom:Nat:=0
 refs:List (Nat×Nat):=[]
 dyn:Nat:=0
 bcd:Nat→Option Cdc:=fun _=>none
 eqs:TypeId→Bool:=fun _=>false
 cdc:TypeId→Option Cdc
 res:FuncId→Option Cdc
 pure:FuncId→Bool:=fun _=>false
 pan:FuncId→Bool:=fun _=>false
 defs:List Deferred:=[]
 fnv:Nat→Option Cdc:=fun _=>none
def ZJT:List (Nat×Nat)→Nat→Option Nat
 | [],_=>none
 | (s,t)::l,k=>bif Nat.beq k s then some t else ZJT l k
def Ann.refOf (A:Ann) (s:Nat):Option Nat:=ZJT A.refs s
def Ann.isProm (A:Ann) (s:Nat):Bool:=A.prom.testBit s
def Ann.isLocal (A:Ann) (s:Nat):Bool:=A.isProm s||(A.refOf s).isSome
def ZAL:Option Nat→Nat→Bool
 | some a,b=>Nat.beq a b
 | none,_=>false
def put (A:Ann) (env:Env) (dst:Option Tmp) (e:EV):Env:=
 match dst with
 | none=>env
 | some d=>fun s=>bif Nat.beq s d then e else bif A.isProm d&&ZAL (A.refOf s) d then .unk else env s
inductive LV where
 | v (x:Value)
 | r (t off:Nat) (cs:List Value)
 | no
def ZST (t off:Nat):EV→LV
 | .box cs=>.r t off cs
 | _=>.no
def look (A:Ann) (env:Env):Operand→LV
 | .tmp t=>match env t with
   | .val v=>.v v
   | .box cs=>.r t 0 cs
   | .ref off=>match A.refOf t with
     | some t'=>bif A.isProm t' then ZST t' off (env t') else .no
     | none=>.no
   | .unk=>.no
 | .const v=>.v v
 | .func f=>.v (.func (.func f) #[] #[])
 | .global _=>.no
abbrev ZB (b:Bool) (X Y:Prop):Prop:=cond b X Y
def ZR (p:Option Addr) (K:Addr→Prop):Prop:=
 match p with
 | some a=>K a
 | none=>False
def Zi (a:Option Addr) (len:Nat) (i:Int) (K:Addr→Prop):Prop:=0≤i∧i<len∧ZR a K
def atP (len:Nat) (i:Int) (K:Prop):Prop:=0≤i∧i<len∧K
def ZC (c:Cdc) (a:Addr) (h:Hp) (K:c.T→Prop):Prop:=∃ x,h.rds a (c.enc x).cells.toList∧K x
def Hp.may (h:Hp) (a:Addr) (n:Nat):Prop:=∀ i,i<n→(∃ v,h.cell? (a.add i)=some v)∧h.frozen? (a.add i)=false
def ZU (c:Cdc) (a:Addr) (x:c.T) (h:Hp) (K:Hp→Prop):Prop:=h.may a c.n∧K (h.wrs a 0 (c.enc x).cells.toList)
def ZL (o:Obj) (h:Hp) (K:Nat→Hp→Prop):Prop:=∀ b,h b=none→K b (h.upd b o)
def ZA (P:Program) (f:FuncId) (args:List Value) (c:Cdc) (h:Hp) (K:c.T→Hp→Prop):Prop:=
 ZG4 P f args.toArray h fun v h'=>∃ x,v=c.enc x∧K x h'
def ZEb (P:Program) (f:FuncId) (args:List Value) (c:Cdc) (h:Hp) (K:c.T→Hp→Prop) (S:Value→Hp→Prop):Prop:=
 ZR6 P f args.toArray h (fun v h'=>∃ x,v=c.enc x∧K x h') S
def ZBk (P:Program) (f:FuncId) (args:List Value) (v:Option Value) (h:Hp) (K:Hp→Prop):Prop:=
 match v with
 | none=>ZVp P f args.toArray .returning .returning h K
 | some v=>ZVp P f args.toArray (.panicking [{v,recovered:=false}]) (.panicking [{v,recovered:=true}]) h K
def ZQj (P:Program) (f:FuncId) (args:List Value) (c:Cdc) (K:c.T→Prop):Prop:=
 ∃ x,ZG4 P f args.toArray Hp.emp (fun v h'=>v=c.enc x∧h'=Hp.emp)∧K x
def ZZy (lo:Option Int) (h:Nat):Option Nat→Prop
 | some l=>match lo with
   | some i=>0≤i∧i≤h∧l=i.toNat
   | none=>l=0
 | none=>False
def ZAD (len cap:Nat) (lo hi:Option Int) (K:Nat→Nat→Prop):Prop:=
 match hi,lo with
 | some j,some i=>0≤i∧i≤j∧j≤cap∧K i.toNat j.toNat
 | some j,none=>0≤j∧j≤cap∧K 0 j.toNat
 | none,some i=>0≤i∧i≤len∧K i.toNat len
 | none,none=>K 0 len
def ZH3 (cap:Nat) (lo:Option Int) (hi mx:Int) (K:Nat→Nat→Nat→Prop):Prop:=
 mx≤cap∧hi≤mx∧0≤hi∧match lo with
 | some i=>0≤i∧i≤hi∧K i.toNat hi.toNat mx.toNat
 | none=>K 0 hi.toNat mx.toNat
def ZBL (P:Program) (g:FuncId) (first captured:Array Value) (l:List Value) (c:Cdc) (h:Hp) (K:c.T→Hp→Prop):Prop:=
 (∃ fn body,P.funcs[g]?=some fn∧fn.body=some body)∧ZA P g (first.toList++(l++captured.toList)) c h K
def ZMb (c:Cdc) (k:IntKind) (l:List (Int×c.T×Nat)) (clock:Nat):Obj:=.map (l.map fun e=>{key:=.int k e.1,val:=c.enc e.2.1,born:=e.2.2}).toArray clock
def ZPd {c:Cdc} (z:c.T) (n:Int):List (Int×c.T×Nat)→c.T
 | []=>z
 | e::l=>if n=e.1 then e.2.1 else ZPd z n l
def ZVP (c:Cdc) (k:IntKind) (m:Option Nat) (n:Int) (z:c.T) (h:Hp) (K:c.T→Prop):Prop:=
 ∃ r l clock,m=some r∧h r=some (ZMb c k l clock)∧K (ZPd z n l)
def ZX6 (c:Cdc) (k:IntKind) (m:Option Nat) (n:Int) (v:c.T) (h:Hp) (K:Hp→Prop):Prop:=
 ∃ r l clock,m=some r∧h r=some (ZMb c k l clock)∧(∀ e∈l,n≠e.1)∧K (h.upd r (ZMb c k (l++[(n,v,clock)]) (clock+1)))
def ZNT (P:Program) (g:FuncId) (args:List Value) (c:Cdc) (h:Hp) (K:c.T→Prop):Prop:=
 ∃ x,(∀ w,h.le w→(callFunc g args.toArray).run P w=.ok (.value (c.enc x)) w)∧K x
def ZXg (A:Ann):Operand→Option Cdc
 | .tmp t=>A.fnv t
 | _=>none
def ZIS:List Value→Bool
 | []=>true
 | v::l=>ZF7 v&&ZIS l
def ZEj (cs:List Value) (off:Nat) (vs:List Value):List Value:=cs.take off++(vs++cs.drop (off+vs.length))
def ZCR (k:IntKind) (x y:Int):Int:=k.wrap ((BitVec.ofInt k.bits x &&& BitVec.ofInt k.bits y).toNat:Int)
def orI (k:IntKind) (x y:Int):Int:=k.wrap ((BitVec.ofInt k.bits x ||| BitVec.ofInt k.bits y).toNat:Int)
def ZOT (k:IntKind) (x y:Int):Int:=k.wrap ((BitVec.ofInt k.bits x ^^^ BitVec.ofInt k.bits y).toNat:Int)
def ZGA (k:IntKind) (x y:Int):Int:=k.wrap ((BitVec.ofInt k.bits x &&& ~~~BitVec.ofInt k.bits y).toNat:Int)
def ZLt (k:IntKind) (x y:Int):Int:=k.wrap (x*2 ^ (min y.toNat k.bits))
def ZBM (k:IntKind) (x y:Int):Int:=x.fdiv (2 ^ (min y.toNat k.bits))
def ZWp (k:IntKind) (x y:Int):Int:=k.wrap (x.tdiv y)
def ZJi (x y:Int):Int:=if y<x then y else x
def ZTJ (x y:Int):Int:=if y>x then y else x
def Zj (a:Option Addr) (l m size:Nat):Option Addr:=if m=l then a else a.map (·.add (l*size))
def ZKH (x y:ByteArray):Bool:=x.toList==y.toList
def ZH9 (P:Program) (t:TypeId) (xs:List Value) (off:Nat):Option Value:=
 match P.info? t with
 | some i=>match P.underlying t with
   | some (.struct _)=>some (.agg ((xs.drop off).take i.size).toArray)
   | some (.array _ _)=>some (.agg ((xs.drop off).take i.size).toArray)
   | some _=>xs[off]?
   | none=>none
 | none=>none
def ZWw (P:Program) (f:TypeId→Value→Value→Option Bool) (xs ys:List Value):List Field→Option Bool
 | []=>some true
 | [g]=>match ZH9 P g.type xs g.offset,ZH9 P g.type ys g.offset with
   | some x,some y=>f g.type x y
   | _,_=>none
 | g::gs=>match ZH9 P g.type xs g.offset,ZH9 P g.type ys g.offset with
   | some x,some y=>match f g.type x y,ZWw P f xs ys gs with
     | some r,some r'=>some (r&&r')
     | _,_=>none
   | _,_=>none
def ZYb (P:Program) (f:TypeId→Value→Value→Option Bool) (e n:Nat) (xs ys:List Value):List Nat→Option Bool
 | []=>some true
 | i::is=>match ZH9 P e xs (i*n),ZH9 P e ys (i*n) with
   | some x,some y=>match f e x y,ZYb P f e n xs ys is with
     | some r,some r'=>some (r&&r')
     | _,_=>none
   | _,_=>none
def eqI:Value→Value→Option Bool
 | .int j a,.int j' b=>match decide (j=j') with
   | true=>some (a==b)
   | false=>none
 | _,_=>none
def eqB:Value→Value→Option Bool
 | .bool a,.bool b=>some (a==b)
 | _,_=>none
def eqS:Value→Value→Option Bool
 | .string a,.string b=>some (ZKH a b)
 | _,_=>none
def ZCW:Value→Option (List Value)
 | .agg xs=>some xs.toList
 | _=>none
def eqV (P:Program):Nat→TypeId→Value→Value→Option Bool
 | 0,_,_,_=>none
 | d+1,t,x,y=>match P.underlying t with
   | some (.int _)=>eqI x y
   | some .bool=>eqB x y
   | some .string=>eqS x y
   | some (.struct fs)=>match ZCW x,ZCW y with
     | some xs,some ys=>ZWw P (eqV P d) xs ys fs.toList
     | _,_=>none
   | some (.array n e)=>match ZCW x,ZCW y with
     | some xs,some ys=>match P.info? e with
       | some i=>ZYb P (eqV P d) e i.size xs ys (List.range n)
       | none=>none
     | _,_=>none
   | _=>none
def ZUi (P:Program):Nat→TypeId→Bool
 | 0,_=>false
 | d+1,t=>match P.underlying t with
   | some (.int _)=>true
   | some .bool=>true
   | some .string=>true
   | some (.struct fs)=>!P.stoodInHeld t&&fs.toList.all fun f=>f.name != "_" && ZUi P d f.type
   | some (.array _ e)=>ZUi P d e
   | _=>false
def ZYG (A:Ann) (P:Program) (op:BinOp) (t:TypeId) (x y:Value) (k:EV→Prop):Prop:=
 match x,y with
 | .int j a,.int j' b=>match op with
   | .shl=>0≤b∧k (.val (.int j (ZLt j a b)))
   | .shr=>0≤b∧k (.val (.int j (ZBM j a b)))
   | _=>match decide (j=j') with
     | false=>False
     | true=>match op with
       | .add=>k (.val (.int j (j.wrap (a+b))))
       | .sub=>k (.val (.int j (j.wrap (a-b))))
       | .mul=>k (.val (.int j (j.wrap (a*b))))
       | .quo=>b≠0∧k (.val (.int j (ZWp j a b)))
       | .rem=>b≠0∧k (.val (.int j (a.tmod b)))
       | .and=>k (.val (.int j (ZCR j a b)))
       | .or=>k (.val (.int j (orI j a b)))
       | .xor=>k (.val (.int j (ZOT j a b)))
       | .andNot=>k (.val (.int j (ZGA j a b)))
       | .eql=>k (.val (.bool (a==b)))
       | .neq=>k (.val (.bool (a != b)))
       | .lss=>k (.val (.bool (decide (a<b))))
       | .leq=>k (.val (.bool (decide (a≤b))))
       | .gtr=>k (.val (.bool (decide (a>b))))
       | .geq=>k (.val (.bool (decide (a≥b))))
       | _=>False
 | .bool a,.bool b=>match op,P.underlying t with
   | .eql,some .bool=>k (.val (.bool (a==b)))
   | .neq,some .bool=>k (.val (.bool (!(a==b))))
   | _,_=>False
 | .string a,.string b=>match op with
   | .eql=>k (.val (.bool (ZKH a b)))
   | .neq=>k (.val (.bool (!ZKH a b)))
   | _=>False
 | .pointer p,.pointer none=>match op,P.underlying t with
   | .eql,some (.pointer _)=>k (.val (.bool p.isNone))
   | .neq,some (.pointer _)=>k (.val (.bool (!p.isNone)))
   | _,_=>False
 | .slice a _ _,.slice none _ _=>match op,P.underlying t with
   | .eql,some (.slice _)=>k (.val (.bool a.isNone))
   | .neq,some (.slice _)=>k (.val (.bool (!a.isNone)))
   | _,_=>False
 | .agg xs,.agg ys=>bif A.eqs t then
    (match op,eqV P 20 t (.agg xs) (.agg ys) with
    | .eql,some r=>k (.val (.bool r))
    | .neq,some r=>k (.val (.bool (!r)))
    | _,_=>False)
   else False
 | _,_=>False
def moveL (A:Ann) (dst:Option Tmp) (l:LV) (k:EV→Prop):Prop:=
 match l with
 | .v v=>k (.val v)
 | .r t off _=>match dst with
   | some d=>bif ZAL (A.refOf d) t then k (.ref off) else k .unk
   | none=>k .unk
 | .no=>k .unk
def refTo (A:Ann) (dst:Option Tmp) (t off:Nat) (k:EV→Prop):Prop:=
 match dst with
 | some d=>bif ZAL (A.refOf d) t then k (.ref off) else False
 | none=>False
def ZHw (ρ:Operand→LV):List Operand→Option (List Value)
 | []=>some []
 | x::l=>match ρ x with
   | .v v=>match ZHw ρ l with
     | some vs=>some (v::vs)
     | none=>none
   | _=>none
def ZC2 (ρ:Operand→LV):List (Nat×Operand)→Option (List (Nat×Value))
 | []=>some []
 | (i,x)::l=>match ρ x with
   | .v v=>match ZC2 ρ l with
     | some vs=>some ((i,v)::vs)
     | none=>none
   | _=>none
def ZCE (P:Program) (t:TypeId):Bool:=
 match P.underlying t with
 | some (.struct _)=>true
 | some (.array _ _)=>true
 | _=>false
def ZDA (P:Program) (t:TypeId):Option Value:=
 match P.info? t with
 | some i=>i.zero
 | none=>none
def ZDz (P:Program) (t:TypeId):Bool:=
 match P.info? t with
 | some i=>match i.zero with
   | some z=>Nat.beq z.cells.size i.size
   | none=>false
 | none=>false
def ZAu (P:Program) (t:TypeId):Nat:=
 match P.info? t with
 | some i=>i.bytes
 | none=>0
def ZAl (P:Program) (t:TypeId):Option Nat:=
 match P.info? t with
 | some i=>some i.size
 | none=>none
def ZAn (P:Program) (c:Cdc) (t:TypeId):Bool:=
 c.mem&&(c.agg==ZCE P t)&&(match ZAl P t with|some n=>Nat.beq n c.n|none=>false)
def ZJW (agg:Bool) (n:Nat) (cs:List Value) (off:Nat) (k:EV→Prop):Prop:=
 match agg with
 | true=>bif Nat.ble (off+n) cs.length then k (.val (.agg ((cs.drop off).take n).toArray)) else False
 | false=>match cs[off]? with
   | some v=>k (.val v)
   | none=>False
def ZM5 (c:Cdc) (cs:List Value) (off:Nat) (K:c.T→Prop):Prop:=∃ x,(∀ i v,(c.enc x).cells.toList[i]?=some v→cs[off+i]?=some v)∧K x
def ZQU (c:Cdc) (cs:List Value) (off:Nat) (vs:List Value) (K:c.T→Prop):Prop:=off+vs.length≤cs.length∧∃ x,(c.enc x).cells.toList=ZEj cs off vs∧K x
def ZZn:Operand→Option Tmp
 | .tmp t=>some t
 | _=>none
def ZQq (A:Ann) (x:Operand):Bool:=
 match x with
 | .tmp t=>A.dyn.testBit t
 | _=>false
def ZKf (A:Ann) (x:Operand):Bool:=
 match x with
 | .tmp t=>A.isLocal t
 | _=>false
inductive Cls where
 | p|c|r|a|w
 deriving DecidableEq
def ZP0 (P:Program) (t:TypeId):Bool:=
 match P.underlying t with
 | some (.chan _ _)=>true
 | _=>false
def cls (A:Ann) (P:Program) (o:Oper):Cls:=
 match o.op with
 | .load _ x=>bif ZKf A x then .p else .r
 | .store _ x _=>bif ZKf A x then .p else .w
 | .alloc _|.box _ _=>match o.dst with
   | some d=>bif A.isProm d then .p else .a
   | none=>.w
 | .buildSlice _ _ _=>.a
 | .makeSlice _ _ _|.makeChan _ _|.makeMap _ _=>.a
 | .convert src dst _=>match P.underlying src,P.underlying dst with
   | some (.int _),some (.int _)=>.p
   | some (.slice _),some .string=>.r
   | _,_=>.w
 | .call c=>match c.callee with
   | .builtin .len=>match c.argTypes[0]? with
     | some t=>bif ZP0 P t then .r else .p
     | none=>.w
   | .builtin .min=>.p
   | .builtin .max=>.p
   | .value (.func g)=>bif A.pure g then .c else .w
   | _=>.w
 | .move _|.assign _|.pick _ _ _|.build _ _|.nilCheck _|.binOp _ _ _ _ _|.unOp _ _ _|.makeInterface _ _|.makeFunc _ _ _
 | .slice _ _ _ _ _|.fieldAddr _ _ _|.field _ _ _|.indexAddr _ _ _|.index _ _ _|.extract _ _=>.p
 | _=>.w
def ZAr (A:Ann) (o:Oper):Option Tmp:=
 match o.op with
 | .store _ (.tmp t) _=>bif A.isProm t then some t else A.refOf t
 | _=>o.dst
def ZYF (P:Program) (fs:Array Field) (z:Array Value) (l:List (Nat×Value)):Option (Array Value):=
 bif fs.all (fun f=>(ZAl P f.type).isSome) then Instr.fill (fun i=>(fs[i]?).map fun f=>(f.offset,P.cellsOf f.type)) z l else none
def ZYl (P:Program) (e:TypeId) (z:Array Value) (l:List (Nat×Value)):Option (Array Value):=
 match ZAl P e with
 | some n=>Instr.fill (fun i=>some (i*n,n)) z l
 | none=>none
def opP (A:Ann) (P:Program) (o:Oper) (ρ:Operand→LV) (k:EV→Prop):Prop:=
 match o.op with
 | .move x=>moveL A o.dst (ρ x) k
 | .assign x=>moveL A o.dst (ρ x) k
 | .pick c a b=>match ρ c with
   | .v (.bool t)=>ZB t (moveL A o.dst (ρ a) k) (moveL A o.dst (ρ b) k)
   | _=>False
 | .alloc elem=>match ZDA P elem with
   | some z=>k (.box z.cells.toList)
   | none=>False
 | .box _ x=>match ρ x with
   | .v v=>k (.box v.cells.toList)
   | _=>False
 | .build t ps=>match ZC2 ρ ps.toList,ZDA P t,P.underlying t with
   | some l,some z,some (.struct fs)=>match ZYF P fs z.cells l with
     | some cs=>k (.val (.agg cs))
     | none=>False
   | some l,some z,some (.array _ e)=>match ZYl P e z.cells l with
     | some cs=>k (.val (.agg cs))
     | none=>False
   | _,_,_=>False
 | .nilCheck x=>match ρ x with
   | .v (.pointer p)=>ZR p fun a=>k (.val (.pointer (some a)))
   | .v (.func (.func f) a b)=>k (.val (.func (.func f) a b))
   | .r t off _=>refTo A o.dst t off k
   | _=>False
 | .binOp op t x y _=>match ρ x,ρ y with
   | .v x,.v y=>ZYG A P op t x y k
   | _,_=>False
 | .unOp op _ x=>match op,ρ x with
   | .neg,.v (.int j n)=>k (.val (.int j (j.wrap (0-n))))
   | .not,.v (.bool b)=>k (.val (.bool (!b)))
   | _,_=>False
 | .convert src dst x=>match P.underlying src,P.underlying dst,ρ x with
   | some (.int _),some (.int j),.v (.int _ n)=>k (.val (.int j (j.wrap n)))
   | _,_,_=>False
 | .makeInterface t x=>match P.underlying t,ρ x with
   | some (.interface _),_=>False
   | some _,.v v=>k (.val (.iface t v))
   | _,_=>False
 | .makeFunc fn first captured=>match ZHw ρ first.toList,ZHw ρ captured.toList with
   | some l,some m=>k (.val (.func fn l.toArray m.toArray))
   | _,_=>False
 | .fieldAddr s x f=>match P.underlying s with
   | some (.struct fs)=>match fs[f]? with
     | some fd=>match ZAl P fd.type with
       | some (_+1)=>match ρ x with
         | .v (.pointer (some a))=>k (.val (.pointer (some (a.add fd.offset))))
         | .r t off _=>refTo A o.dst t (off+fd.offset) k
         | _=>False
       | _=>False
     | none=>False
   | _=>False
 | .field s x f=>match P.underlying s with
   | some (.struct fs)=>match fs[f]? with
     | some fd=>match ZAl P fd.type,ρ x with
       | some n,.v (.agg cs)=>ZJW (ZCE P fd.type) n cs.toList fd.offset k
       | _,_=>False
     | none=>False
   | _=>False
 | .load t x=>match ZAl P t,ρ x with
   | some n,.r _ off cs=>bif ZQq A x then
      match A.cdc t with
      | some c=>bif ZAn P c t then ZM5 c cs off fun y=>k (.val (c.enc y)) else False
      | none=>False
     else ZJW (ZCE P t) n cs off k
   | _,_=>False
 | .store t x y=>match ZAl P t,ρ x,ρ y,o.dst with
   | some n,.r bt off cs,.v v,none=>bif Nat.beq v.cells.size n&&ZIS v.cells.toList then
      (bif ZQq A x then
          match A.bcd bt with
          | some c=>ZQU c cs off v.cells.toList fun z=>k (.box (c.enc z).cells.toList)
          | none=>False
      else bif Nat.ble (off+n) cs.length then k (.box (ZEj cs off v.cells.toList)) else False)
     else False
   | _,_,_,_=>False
 | .indexAddr t x ix=>match P.underlying t,ρ ix with
   | some (.slice e),.v (.int _ i)=>match ZAl P e,ρ x with
     | some n,.v (.slice a len _)=>Zi a len i fun ad=>k (.val (.pointer (some (ad.add (i.toNat*n)))))
     | _,_=>False
   | some (.array len e),.v (.int _ i)=>match ZAl P e,ρ x with
     | some n,.v (.pointer (some a))=>atP len i (k (.val (.pointer (some (a.add (i.toNat*n))))))
     | some n,.r t off _=>atP len i (refTo A o.dst t (off+i.toNat*n) k)
     | _,_=>False
   | _,_=>False
 | .index t x ix=>match P.underlying t,ρ x,ρ ix with
   | some .string,.v (.string s),.v (.int _ i)=>atP s.size i (k (.val (.int .u8 ((s.data.getD i.toNat 0).toNat:Int))))
   | _,_,_=>False
 | .slice t x lo hi mx=>match P.underlying t,ρ x with
   | some (.slice e),.v (.slice a len cap)=>match ZAl P e with
     | none=>False
     | some n=>match lo.map ρ,hi.map ρ,mx.map ρ with
       | none,none,none=>ZAD len cap none none fun l h=>k (.val (.slice (Zj a l cap n) (h-l) (cap-l)))
       | some (.v (.int _ i)),none,none=>ZAD len cap (some i) none fun l h=>k (.val (.slice (Zj a l cap n) (h-l) (cap-l)))
       | none,some (.v (.int _ j)),none=>ZAD len cap none (some j) fun l h=>k (.val (.slice (Zj a l cap n) (h-l) (cap-l)))
       | some (.v (.int _ i)),some (.v (.int _ j)),none=>ZAD len cap (some i) (some j) fun l h=>k (.val (.slice (Zj a l cap n) (h-l) (cap-l)))
       | some (.v (.int _ i)),some (.v (.int _ j)),some (.v (.int _ m))=>ZH3 cap (some i) j m fun l h m=>k (.val (.slice (Zj a l m n) (h-l) (m-l)))
       | none,some (.v (.int _ j)),some (.v (.int _ m))=>ZH3 cap none j m fun l h m=>k (.val (.slice (Zj a l m n) (h-l) (m-l)))
       | _,_,_=>False
   | some .string,.v (.string s)=>match lo.map ρ,hi.map ρ,mx with
      | some (.v (.int _ i)),none,none=>ZAD s.size s.size (some i) none fun l h=>k (.val (.string (s.extract l h)))
      | none,some (.v (.int _ j)),none=>ZAD s.size s.size none (some j) fun l h=>k (.val (.string (s.extract l h)))
      | some (.v (.int _ i)),some (.v (.int _ j)),none=>ZAD s.size s.size (some i) (some j) fun l h=>k (.val (.string (s.extract l h)))
      | _,_,_=>False
   | some (.array n e),.v (.pointer (some a))=>match ZAl P e with
     | none=>False
     | some z=>match lo.map ρ,hi.map ρ,mx with
       | none,none,none=>ZAD n n none none fun l h=>k (.val (.slice (Zj (some a) l n z) (h-l) (n-l)))
       | some (.v (.int _ i)),none,none=>ZAD n n (some i) none fun l h=>k (.val (.slice (Zj (some a) l n z) (h-l) (n-l)))
       | none,some (.v (.int _ j)),none=>ZAD n n none (some j) fun l h=>k (.val (.slice (Zj (some a) l n z) (h-l) (n-l)))
       | some (.v (.int _ i)),some (.v (.int _ j)),none=>ZAD n n (some i) (some j) fun l h=>k (.val (.slice (Zj (some a) l n z) (h-l) (n-l)))
       | _,_,_=>False
   | _,_=>False
 | .extract x i=>match ρ x with
   | .v (.tuple vs)=>match vs[i]? with
     | some v=>k (.val v)
     | none=>False
   | _=>False
 | .call c=>match c.callee,c.argTypes[0]?,ZHw ρ c.args.toList with
   | .builtin .len,some t,some [v]=>match P.underlying t,v with
     | some .string,.string s=>k (.val (.int .i64 (s.size:Int)))
     | some (.array n _),_=>k (.val (.int .i64 (n:Int)))
     | some (.slice _),.slice _ n _=>k (.val (.int .i64 (n:Int)))
     | _,_=>False
   | .builtin .min,_,some [.int j x,.int _ y]=>k (.val (.int j (ZJi x y)))
   | .builtin .max,_,some [.int j x,.int _ y]=>k (.val (.int j (ZTJ x y)))
   | _,_,_=>False
 | _=>False
def opC (A:Ann) (P:Program) (o:Oper) (ρ:Operand→LV) (k:EV→Prop):Prop:=
 match o.op with
 | .call c=>match c.callee with
   | .value (.func g)=>match ZHw ρ c.args.toList,A.res g,P.funcs[g]? with
     | some l,some r,some fn=>match fn.body with
       | some _=>ZQj P g l r fun y=>k (.val (r.enc y))
       | none=>False
     | _,_,_=>False
   | _=>False
 | _=>False
def ZJQ (xs:List Int):ByteArray:=xs.foldl (fun s n=>s.push (UInt8.ofNat n.toNat)) ByteArray.empty
def ZDj (xs:List Int):List Value:=xs.map fun n=>.int .u8 n
def ZXM (a:Option Addr) (len:Nat) (h:Hp) (K:ByteArray→Prop):Prop:=
 match a with
 | none=>K ByteArray.empty
 | some a=>∃ xs:List Int,xs.length=len∧h.rds a (ZDj xs)∧K (ZJQ xs)
def ZZd (c:Option Nat) (h:Hp) (K:Int→Prop):Prop:=
 match c with
 | none=>K 0
 | some r=>∃ cap buf cl s r',h r=some (.chan cap buf cl s r' false)∧K (buf.size:Int)
def opR (A:Ann) (P:Program) (o:Oper) (ρ:Operand→LV) (h:Hp) (k:EV→Prop):Prop:=
 match o.op with
 | .load t x=>match A.cdc t,ρ x with
   | some c,.v (.pointer (some a))=>bif ZAn P c t then ZC c a h fun y=>k (.val (c.enc y)) else False
   | _,_=>False
 | .convert src dst x=>match P.underlying src,P.underlying dst,ρ x with
   | some (.slice e),some .string,.v (.slice a len _)=>match P.underlying e with
     | some (.int .u8)=>ZXM a len h fun s=>k (.val (.string s))
     | _=>False
   | _,_,_=>False
 | .call c=>match c.callee,c.argTypes[0]?,ZHw ρ c.args.toList with
   | .builtin .len,some t,some [.chan r]=>bif ZP0 P t then ZZd r h fun n=>k (.val (.int .i64 n)) else False
   | _,_,_=>False
 | _=>False
def Z1 (n:Nat) (zs:List Value):List Value:=(List.replicate n zs).flatten
def ZD5 (n m:Int) (bytes:Nat) (K:Prop):Prop:=0≤n∧n≤m∧m≤1099511627776∧(bytes:Int)*m≤1099511627776∧K
def ZQR (n:Int) (bytes:Nat) (K:Prop):Prop:=0≤n∧n≤1099511627776∧(bytes:Int)*n≤1099511627776∧K
def opA (P:Program) (o:Oper) (ρ:Operand→LV) (k:Obj→(Nat→Value)→Prop):Prop:=
 match o.op with
 | .alloc elem=>match ZDA P elem with
   | some z=>k (.cells z.cells elem) fun b=>.pointer (some ⟨b,0,none⟩)
   | none=>False
 | .box elem x=>match ρ x with
   | .v v=>k (.cells v.cells elem) fun b=>.pointer (some ⟨b,0,none⟩)
   | _=>False
 | .buildSlice t len ps=>match P.underlying t,ZC2 ρ ps.toList with
   | some (.slice e),some l=>match ZAl P e,ZDA P e with
     | some n,some z=>bif Nat.ble (len*n) 16777216 then
          (match Instr.fill (fun i=>some (i*n,n)) ((Array.range (len*n)).map (z.cells[· % z.cells.size]!)) l with
          | some cs=>k (.cells cs e) fun b=>.slice (some ⟨b,0,none⟩) len len
          | none=>False)
       else False
     | _,_=>False
   | _,_=>False
 | .makeSlice t l c=>match P.underlying t,ρ l,ρ c with
   | some (.slice e),.v (.int _ n),.v (.int _ m)=>match ZDA P e with
     | some z=>bif ZDz P e then ZD5 n m (ZAu P e) (k (.cells (Z1 m.toNat z.cells.toList).toArray e) fun b=>.slice (some ⟨b,0,none⟩) n.toNat m.toNat) else False
     | none=>False
   | _,_,_=>False
 | .makeChan t n=>match P.underlying t,ρ n with
   | some (.chan _ e),.v (.int _ n)=>match ZAl P e with
     | some _=>ZQR n (ZAu P e) (k (.chan n.toNat #[] false 0 0 false) fun b=>.chan (some b))
     | none=>False
   | _,_=>False
 | .makeMap t r=>match r,P.underlying t with
   | none,some (.map _ _)=>k (.map #[] 0) fun b=>.map (some b)
   | _,_=>False
 | _=>False
def ZG (c:Cdc) (xs:List c.T):List Value:=xs.flatMap fun x=>(c.enc x).cells.toList
def ZB6 (c:Cdc) (a:Option Addr) (len:Nat) (h:Hp) (K:List c.T→Prop):Prop:=
 match a with
 | none=>len=0∧K []
 | some a=>∃ xs:List c.T,xs.length=len∧h.rds a (ZG c xs)∧K xs
def ZAI:Nat:=1099511627776
def ZY (c:Cdc) (e:TypeId) (bytes:Nat) (a:Option Addr) (len cap:Nat) (b:Option Addr) (n:Nat) (h:Hp) (K:Option Addr→Nat→Nat→Hp→Prop):Prop:=
 ZB6 c b n h fun ys=>
  (len+n≤cap→match a with
    | some ad=>h.may (ad.add (len*c.n)) (n*c.n)∧K a (len+n) cap (h.wrs (ad.add (len*c.n)) 0 (ZG c ys))
    | none=>K a (len+n) cap h)∧
  (cap<len+n→(len+n)*bytes≤ZAI∧ZB6 c a len h fun xs=>
    ∀ nc pad,len+n≤nc→pad.length=(nc-(len+n))*c.n→
     ZL (.cells (ZG c xs++(ZG c ys++pad)).toArray e) h fun nb h'=>K (some ⟨nb,0,none⟩) (len+n) nc h')
def ZGw (c:Cdc) (z:c.T) (e:TypeId) (bytes:Nat) (a:Option Addr) (len cap:Nat) (n:Int) (h:Hp) (K:Option Addr→Nat→Nat→Hp→Prop):Prop:=
 0≤n∧n.toNat*bytes≤ZAI∧
  (len+n.toNat≤cap→match a with
    | some ad=>h.may (ad.add (len*c.n)) (n.toNat*c.n)∧K a (len+n.toNat) cap (h.wrs (ad.add (len*c.n)) 0 (ZG c (List.replicate n.toNat z)))
    | none=>K a (len+n.toNat) cap h)∧
  (cap<len+n.toNat→(len+n.toNat)*bytes≤ZAI∧ZB6 c a len h fun xs=>
    ∀ nc pad,len+n.toNat≤nc→pad.length=(nc-len)*c.n→
     ZL (.cells (ZG c xs++pad).toArray e) h fun nb h'=>K (some ⟨nb,0,none⟩) (len+n.toNat) nc h')
def ZA6 (c:Cdc) (a:Option Addr) (len:Nat) (b:Option Addr) (n:Nat) (h:Hp) (K:Int→Hp→Prop):Prop:=
 ZB6 c b (min n len) h fun ys=>match a with
  | some ad=>h.may ad (min n len*c.n)∧K (min n len:Nat) (h.wrs ad 0 (ZG c ys))
  | none=>K (min n len:Nat) h
def ZDx (c:Cdc) (z:c.T) (a:Option Addr) (n:Nat) (h:Hp) (K:Hp→Prop):Prop:=
 match a with
 | some ad=>h.may ad (n*c.n)∧K (h.wrs ad 0 (ZG c (List.replicate n z)))
 | none=>K h
def ZNm (e:TypeId) (s:ByteArray) (h:Hp) (K:Nat→Nat→Hp→Prop):Prop:=
 ∀ cap pad b,s.size≤cap→pad.length=cap-s.size→h b=none→
  K b cap (h.upd b (.cells (ZDj (s.data.toList.map fun x=>(x.toNat:Int))++pad).toArray e (cap,cap+1)))
def frz (n:Nat):Nat×Nat→Nat×Nat
 | (lo,hi)=>if lo==hi then (n,n+1) else (min lo n,max hi (n+1))
def ZYi (a:Addr) (h:Hp) (K:Hp→Prop):Prop:=
 ∃ c e fz,h a.block=some (.cells c e fz)∧K (h.upd a.block (.cells c e (frz c.size fz)))
def ZYS (c:Option Nat) (v:Value) (h:Hp) (Kn:Prop) (Ks:Hp→Prop):Prop:=
 match c with
 | none=>Kn
 | some r=>∃ cap buf s r',h r=some (.chan cap buf false s r' false)∧(cap≤buf.size→Kn)∧(buf.size<cap→Ks (h.upd r (.chan cap (buf.push v) false (s+1) r' false)))
def ZYy (cd:Cdc) (c:Option Nat) (h:Hp) (Kn:Prop) (Ks:cd.T→Hp→Prop):Prop:=
 match c with
 | none=>Kn
 | some r=>∃ cap l s r',h r=some (.chan cap (List.toArray l) false s r' false)∧match l with
   | []=>Kn
   | v::l=>∃ x,v=cd.enc x∧Ks x (h.upd r (.chan cap (List.toArray l) false s (r'+1) false))
def opW (A:Ann) (P:Program) (o:Oper) (ρ:Operand→LV) (h:Hp) (k:EV→Hp→Prop):Prop:=
 match o.op with
 | .store t x y=>match A.cdc t,ρ x,ρ y with
   | some c,.v (.pointer (some a)),.v v=>bif ZAn P c t then
      (match c.dec v with
      | some z=>ZU c a z h fun h'=>k .unk h'
      | none=>False)
     else False
   | _,_,_=>False
 | .call c=>match c.callee,ZHw ρ c.args.toList with
   | .value f,some l=>match ρ f with
     | .v (.func (.func g) first captured)=>match ZXg A f with
       | some r=>ZBL P g first captured l r h fun y h'=>k (.val (r.enc y)) h'
       | none=>match A.res g with
       | some r=>match P.funcs[g]? with
         | some fn=>match fn.body with
           | some _=>ZA P g (first.toList++(l++captured.toList)) r h fun y h'=>k (.val (r.enc y)) h'
           | none=>ZNT P g (first.toList++(l++captured.toList)) r h fun y=>k (.val (r.enc y)) h
         | none=>False
       | none=>False
     | _=>False
   | .builtin .append,some [.slice a len cap,.slice b n _]=>match c.argTypes[0]?,c.argTypes[1]? with
     | some t,some u=>match P.underlying t,P.underlying u with
       | some (.slice e),some (.slice _)=>match A.cdc e with
         | some cd=>bif ZAn P cd e&&(Nat.ble 1 (ZAu P e)&&(Nat.ble (ZAu P e) 1048576&&ZDz P e)) then
            ZY cd e (ZAu P e) a len cap b n h fun a' l' c' h'=>k (.val (.slice a' l' c')) h'
           else False
         | none=>False
       | _,_=>False
     | _,_=>False
   | .builtin .copy,some [.slice a len _,.slice b n _]=>match c.argTypes[0]? with
     | some t=>match P.underlying t with
       | some (.slice e)=>match A.cdc e with
         | some cd=>bif ZAn P cd e then ZA6 cd a len b n h fun m h'=>k (.val (.int .i64 m)) h' else False
         | none=>False
       | _=>False
     | none=>False
   | .builtin .clear,some [.slice a n _]=>match c.argTypes[0]? with
     | some t=>match P.underlying t with
       | some (.slice e)=>match A.cdc e,ZDA P e with
         | some cd,some z=>bif ZAn P cd e then
            (match cd.dec z with
            | some z=>ZDx cd z a n h fun h'=>k (.val (.tuple #[])) h'
            | none=>False)
           else False
         | _,_=>False
       | _=>False
     | none=>False
   | _,_=>False
 | .convert src dst x=>match P.underlying src,P.underlying dst,ρ x with
   | some .string,some (.slice e),.v (.string s)=>match P.underlying e with
     | some (.int .u8)=>ZNm e s h fun b cap h'=>k (.val (.slice (some ⟨b,0,none⟩) s.size cap)) h'
     | _=>False
   | some (.slice _),some (.slice e),.v (.slice (some a) len cap)=>match P.underlying e with
     | some (.int .u8)=>bif Nat.beq src dst then ZYi a h fun h'=>k (.val (.slice (some a) len cap)) h' else False
     | _=>False
   | _,_,_=>False
 | .select cs block=>match block,cs with
   | false,⟨[sc]⟩=>match sc.send with
     | none=>match A.cdc sc.elem,ZDA P sc.elem,ρ sc.chan with
       | some c,some z,.v (.chan r)=>ZYy c r h (k (.val (.tuple #[.int .i64 (-1),.bool false,z])) h) fun x h'=>k (.val (.tuple #[.int .i64 0,.bool true,c.enc x])) h'
       | _,_,_=>False
     | some x=>match ZDA P sc.elem,ρ sc.chan,ρ x with
       | some _,.v (.chan r),.v v=>ZYS r v h (k (.val (.tuple #[.int .i64 (-1),.bool false])) h) fun h'=>k (.val (.tuple #[.int .i64 0,.bool false])) h'
       | _,_,_=>False
   | _,_=>False
 | .lookup t x ix ok=>match ok,P.underlying t with
   | false,some (.map kt et)=>match P.underlying kt,A.cdc et,ZDA P et with
     | some (.int kk),some c,some z=>match ρ x,ρ ix with
       | .v (.map m),.v (.int k' n)=>match decide (kk=k'),c.dec z with
         | true,some zz=>ZVP c kk m n zz h fun y=>k (.val (c.enc y)) h
         | _,_=>False
       | _,_=>False
     | _,_,_=>False
   | _,_=>False
 | .mapUpdate t x ix y=>match P.underlying t with
   | some (.map kt et)=>match P.underlying kt,A.cdc et with
     | some (.int kk),some c=>match ρ x,ρ ix,ρ y with
       | .v (.map m),.v (.int k' n),.v v=>match decide (kk=k'),c.dec v with
         | true,some vv=>ZX6 c kk m n vv h fun h'=>k .unk h'
         | _,_=>False
       | _,_,_=>False
     | _,_=>False
   | _=>False
 | _=>False
def ZC5 (A:Ann) (bx:Nat→Nat) (env:Env) (a:Act) (h fr:Hp) (w:World) (s:Nat):EV→Prop
 | .val v=>a.tmps[s]?=some v
 | .box cs=>a.tmps[s]?=some (.pointer (some ⟨bx s,0,none⟩))∧(∃ e,w.heap[bx s]?=some (.cells cs.toArray e (0,0)))∧h (bx s)=none∧fr (bx s)=none
 | .ref off=>∃ t,A.refOf s=some t∧a.tmps[s]?=some (.pointer (some ⟨bx t,off,none⟩))∧∃ cs,env t=.box cs
 | .unk=>True
structure Rel (A:Ann) (N:Nat) (bx:Nat→Nat) (env:Env) (a:Act) (h fr:Hp) (w0 w:World):Prop where
 size:a.tmps.size=N
 defers:a.defers=A.defs
 hle:h.le w
 frle:fr.le w
 dj:h.dj fr
 same:ZFx w0 w
 slot:∀ s,ZC5 A bx env a h fr w s (env s)
 prom:∀ s cs,env s=.box cs→A.isProm s=true
 inj:∀ s t cs ds,env s=.box cs→env t=.box ds→bx s=bx t→s=t
def Ann.good (A:Ann):Prop:=∀ s t,A.refOf s=some t→A.isProm s=false
section
variable {A:Ann} {N:Nat} {bx:Nat→Nat} {env:Env} {a:Act} {h fr:Hp} {w0 w:World}
theorem ZFC {a b:Nat}:Nat.beq a b=true↔a=b:=Nat.beq_eq▸Iff.rfl
theorem ZSu {a b:Nat}:Nat.beq a b=false↔a≠b:=by
 constructor
 ·intro h e; rw [ZFC.2 e] at h; cases h
 ·intro h; cases e:Nat.beq a b with
  | false=>rfl
  | true=>exact absurd (ZFC.1 e) h
theorem ZA3 {o:Option Nat} {b:Nat}:ZAL o b=true↔o=some b:=by
 cases o with
 | none=>simp [ZAL]
 | some a=>simp [ZAL]
theorem Rel.eval_v (R:Rel A N bx env a h fr w0 w) {x:Operand} {v:Value} (e:look A env x=.v v):a.eval x=v:=by
 cases x with
 | tmp t=>
   have hs:=R.slot t
   simp only [look] at e
   cases he:env t with
   | val u=>
     rw [he] at e hs; simp at e; subst e
     simp only [ZC5] at hs
     simp [Act.eval,hs]
   | box cs=>rw [he] at e; simp at e
   | ref off=>
     rw [he] at e; simp only at e
     cases hr:A.refOf t with
     | none=>rw [hr] at e; cases e
     | some t'=>
       rw [hr] at e; simp only at e
       cases hp:A.isProm t' with
       | false=>rw [hp] at e; cases e
       | true=>rw [hp] at e; simp only [cond_true] at e; cases h':env t'<;>rw [h'] at e<;>cases e
   | unk=>rw [he] at e; cases e
 | const u=>simp [look] at e; subst e; rfl
 | func f=>simp [look] at e; subst e; rfl
 | global g=>cases e
theorem Rel.eval_r (R:Rel A N bx env a h fr w0 w) {x:Operand} {t off:Nat} {cs:List Value} (e:look A env x=.r t off cs):
 a.eval x=.pointer (some ⟨bx t,off,none⟩)∧env t=.box cs∧∃ s,x=.tmp s∧((s=t∧off=0∧A.isProm s=true)∨(A.refOf s=some t∧A.isProm t=true)):=by
 cases x with
 | tmp s=>
   have hs:=R.slot s
   simp only [look] at e
   cases he:env s with
   | val u=>rw [he] at e; cases e
   | box ds=>
     rw [he] at e hs; simp at e; obtain ⟨rfl,rfl,rfl⟩:=e
     obtain ⟨h1,_⟩:=hs
     exact ⟨by simp [Act.eval,h1],he,s,rfl,.inl ⟨rfl,rfl,R.prom _ _ he⟩⟩
   | ref o=>
     rw [he] at e hs; simp only at e
     obtain ⟨t',hr,h1,ds,hb⟩:=hs
     rw [hr] at e; simp only at e; rw [hb,R.prom _ _ hb] at e; simp [ZST] at e; obtain ⟨rfl,rfl,rfl⟩:=e
     exact ⟨by simp [Act.eval,h1],hb,s,rfl,.inr ⟨hr,R.prom _ _ hb⟩⟩
   | unk=>rw [he] at e; cases e
 | const u=>cases e
 | func f=>cases e
 | global g=>cases e
theorem ZBy (d:Nat) (e:EV):put A env (some d) e d=e:=by simp [put]
theorem ZBX {d s:Nat} (e:EV) (hs:s≠d):put A env (some d) e s=env s∨(put A env (some d) e s=.unk∧A.isProm d=true∧A.refOf s=some d):=by
 simp only [put,ZSu.2 hs,cond_false]
 cases hc:(A.isProm d&&ZAL (A.refOf s) d) with
 | false=>left; rfl
 | true=>
   right
   simp only [Bool.and_eq_true] at hc
   exact ⟨rfl,hc.1,ZA3.1 hc.2⟩
theorem ZGM (a:Act) (d:Option Tmp) (v:Value):(a.put d v).tmps.size=a.tmps.size:=by
 cases d<;>simp [Act.put]
theorem ZEY (a:Act) (d:Option Tmp) (v:Value):(a.put d v).defers=a.defers:=by cases d<;>rfl
theorem ZCq (a:Act) {d:Nat} (v:Value) (hd:d<a.tmps.size):(a.put (some d) v).tmps[d]?=some v:=by
 simp [Act.put,hd]
theorem ZCV (a:Act) {d s:Nat} (v:Value) (hs:s≠d):(a.put (some d) v).tmps[s]?=a.tmps[s]?:=by
 simp only [Act.put]
 rw [Array.getElem?_setIfInBounds_ne (Ne.symm hs)]
def ZYd (A:Ann) (bx:Nat→Nat) (env:Env) (d:Option Tmp) (ev:EV) (v:Value):Prop:=
 match ev with
 | .val u=>u=v
 | .ref off=>∃ s t,d=some s∧A.refOf s=some t∧(∃ cs,env t=.box cs)∧v=.pointer (some ⟨bx t,off,none⟩)
 | .unk=>True
 | .box _=>False
theorem Rel.put (R:Rel A N bx env a h fr w0 w) (hA:A.good) {d:Option Tmp} (hd:∀ k,d=some k→k<N) {ev:EV} {v:Value} (hv:ZYd A bx env d ev v):
 Rel A N bx (Eng.put A env d ev) (a.put d v) h fr w0 w:=by
 cases d with
 | none=>exact R
 | some d=>
   have hd:=hd d rfl
   have hds:d<a.tmps.size:=by rw [R.size]; exact hd
   have nb:∀ s cs,Eng.put A env (some d) ev s=.box cs→s≠d∧env s=.box cs:=by
    intro s cs hs
    by_cases e:s=d
    ·subst e; rw [ZBy] at hs; subst hs; exact hv.elim
    ·refine ⟨e,?_⟩
     rcases ZBX (A:=A) (env:=env) ev e with h'|⟨h',_,_⟩
     ·rw [h'] at hs; exact hs
     ·rw [h'] at hs; cases hs
   refine ⟨by rw [ZGM]; exact R.size,by rw [ZEY]; exact R.defers,R.hle,R.frle,R.dj,R.same,?_,?_,?_⟩
   ·intro s
    by_cases e:s=d
    ·subst e
     rw [ZBy]
     cases ev with
     | val u=>simp only [ZYd] at hv; subst hv; exact ZCq a _ hds
     | box cs=>exact hv.elim
     | ref off=>
       obtain ⟨s',t,hs',hr,⟨cs,hb⟩,rfl⟩:=hv
       cases hs'
       refine ⟨t,hr,ZCq a _ hds,cs,?_⟩
       have hts:t≠s:=by
           rintro rfl
           have:=hA _ _ hr
           rw [R.prom _ _ hb] at this; cases this
       rcases ZBX (A:=A) (env:=env) (EV.ref off) hts with h'|⟨_,_,h2⟩
       ·rw [h']; exact hb
       ·have:=hA _ _ h2; rw [R.prom _ _ hb] at this; cases this
     | unk=>trivial
    ·rcases ZBX (A:=A) (env:=env) ev e with h'|⟨h',_,_⟩
     ·rw [h']
      have hs:=R.slot s
      cases hes:env s with
      | val u=>rw [hes] at hs; simp only [ZC5] at hs ⊢; rw [ZCV a v e]; exact hs
      | box cs=>rw [hes] at hs; simp only [ZC5] at hs ⊢; rw [ZCV a v e]; exact hs
      | ref off=>
        rw [hes] at hs; simp only [ZC5] at hs ⊢; rw [ZCV a v e]
        obtain ⟨t,hr,ht,cs,hb⟩:=hs
        refine ⟨t,hr,ht,cs,?_⟩
        have htd:t≠d:=by
            rintro rfl
            rcases ZBX (A:=A) (env:=env) ev e with h2|⟨h2,_,_⟩
            ·have hp:=R.prom _ _ hb
             have:Eng.put A env (some t) ev s=.unk:=by
                  simp only [Eng.put,ZSu.2 e,cond_false,hp,hr,ZAL,ZFC.2 rfl,Bool.and_self,cond_true]
             rw [this] at h2; rw [←h2] at hes; cases hes
            ·rw [h'] at h2; rw [h2] at hes; cases hes
        rcases ZBX (A:=A) (env:=env) ev htd with h2|⟨_,_,h3⟩
        ·rw [h2]; exact hb
        ·have:=hA _ _ h3; rw [R.prom _ _ hb] at this; cases this
      | unk=>trivial
     ·rw [h']; trivial
   ·intro s cs hs; exact R.prom s cs (nb s cs hs).2
   ·intro s t cs ds hs ht he; exact R.inj s t cs ds (nb s cs hs).2 (nb t ds ht).2 he
theorem Rel.world (R:Rel A N bx env a h fr w0 w) {h':Hp} {w':World} (hle:h'.le w') (frle:fr.le w') (dj:h'.dj fr) (same:ZFx w w')
 (keep:∀ b,b<w.heap.size→h b=none→fr b=none→w'.heap[b]?=w.heap[b]?∧h' b=none):Rel A N bx env a h' fr w0 w':=by
 refine ⟨R.size,R.defers,hle,frle,dj,R.same.trans same,?_,R.prom,R.inj⟩
 intro s
 have hs:=R.slot s
 cases hes:env s with
 | val u=>rw [hes] at hs; exact hs
 | box cs=>
   rw [hes] at hs
   obtain ⟨h1,⟨e,h2⟩,h3,h4⟩:=hs
   have hlt:bx s<w.heap.size:=by
    rcases Nat.lt_or_ge (bx s) w.heap.size with h'|h'
    ·exact h'
    ·rw [Array.getElem?_eq_none h'] at h2; cases h2
   obtain ⟨k1,k2⟩:=keep _ hlt h3 h4
   exact ⟨h1,⟨e,by rw [k1]; exact h2⟩,k2,h4⟩
 | ref off=>rw [hes] at hs; exact hs
 | unk=>trivial
noncomputable def ZEn (bx:Nat→Nat) (env:Env) (w:World):Hp:=fun b=>
 open Classical in if ∃ s cs,env s=.box cs∧bx s=b then w.heap[b]? else none
theorem Rel.boxes_le (_R:Rel A N bx env a h fr w0 w):(ZEn bx env w).le w:=by
 intro b o hb
 unfold ZEn at hb
 split at hb
 ·exact hb
 ·cases hb
theorem Rel.boxes_dj (R:Rel A N bx env a h fr w0 w):h.dj (ZEn bx env w):=by
 intro b
 unfold ZEn
 split
 ·rename_i hx
  obtain ⟨s,cs,he,rfl⟩:=hx
  have hs:=R.slot s
  rw [he] at hs
  exact .inl hs.2.2.1
 ·exact .inr rfl
theorem Rel.boxes_dj' (R:Rel A N bx env a h fr w0 w):(ZEn bx env w).dj fr:=by
 intro b
 unfold ZEn
 split
 ·rename_i hx
  obtain ⟨s,cs,he,rfl⟩:=hx
  have hs:=R.slot s
  rw [he] at hs
  exact .inr hs.2.2.2
 ·exact .inl rfl
theorem Rel.called (R:Rel A N bx env a h fr w0 w) {h':Hp} {w':World} (hle:h'.le w') (frle:((ZEn bx env w).un fr).le w') (dj:h'.dj ((ZEn bx env w).un fr)) (same:ZFx w w'):
 Rel A N bx env a h' fr w0 w':=by
 have dj':=R.boxes_dj'
 have fl:=Hp.le_un_right dj' frle
 have bl:=Hp.le_un_left frle
 have d1:=Hp.dj_symm (Hp.dj_un_left (Hp.dj_symm dj))
 have d2:=Hp.dj_symm (Hp.dj_un_right (Hp.dj_symm dj))
 refine ⟨R.size,R.defers,hle,fl,d2,R.same.trans same,?_,R.prom,R.inj⟩
 intro s
 have hs:=R.slot s
 cases hes:env s with
 | val u=>rw [hes] at hs; exact hs
 | box cs=>
   rw [hes] at hs
   obtain ⟨h1,⟨e,h2⟩,h3,h4⟩:=hs
   have hb:ZEn bx env w (bx s)=some (.cells cs.toArray e (0,0)):=by
    unfold ZEn
    rw [if_pos ⟨s,cs,hes,rfl⟩]; exact h2
   refine ⟨h1,⟨e,bl _ _ hb⟩,?_,h4⟩
   rcases d1 (bx s) with k|k
   ·exact k
   ·rw [hb] at k; cases k
 | ref off=>rw [hes] at hs; exact hs
 | unk=>trivial
theorem Rel.newBox (R:Rel A N bx env a h fr w0 w) (hA:A.good) {d:Nat} (hd:d<N) (hp:A.isProm d=true) (cs:List Value) (e:TypeId):
 Rel A N (fun s=>if s=d then w.heap.size else bx s) (Eng.put A env (some d) (.box cs)) (a.put (some d) (.pointer (some ⟨w.heap.size,0,none⟩))) h fr w0 (w.alloc (.cells cs.toArray e)):=by
 have hds:d<a.tmps.size:=by rw [R.size]; exact hd
 have ob:∀ s ds,s≠d→Eng.put A env (some d) (.box cs) s=.box ds→env s=.box ds:=by
  intro s ds hs he
  rcases ZBX (A:=A) (env:=env) (EV.box cs) hs with h'|⟨h',_,_⟩
  ·rw [h'] at he; exact he
  ·rw [h'] at he; cases he
 have lt:∀ s ds,env s=.box ds→bx s<w.heap.size:=by
  intro s ds he
  have hs:=R.slot s
  rw [he] at hs
  obtain ⟨_,⟨e,h2⟩,_,_⟩:=hs
  rcases Nat.lt_or_ge (bx s) w.heap.size with h'|h'
  ·exact h'
  ·rw [Array.getElem?_eq_none h'] at h2; cases h2
 have old:∀ k,k<w.heap.size→(w.alloc (.cells cs.toArray e)).heap[k]?=w.heap[k]?:=by
  intro k hk
  show (w.heap.push _)[k]?=_
  rw [Array.getElem?_push,if_neg (by omega)]
 refine ⟨by rw [ZGM]; exact R.size,by rw [ZEY]; exact R.defers,Hp.le_alloc R.hle _,Hp.le_alloc R.frle _,R.dj,R.same.trans ⟨rfl,rfl,rfl⟩,?_,?_,?_⟩
 ·intro s
  by_cases es:s=d
  ·subst es
   rw [ZBy]
   refine ⟨by rw [ZCq a _ hds]; simp,⟨e,?_⟩,?_,?_⟩
   ·simp only [if_true]
    show (w.heap.push _)[w.heap.size]?=_
    simp
   ·simp only [if_true]; exact Hp.le_lt R.hle (Nat.le_refl _)
   ·simp only [if_true]; exact Hp.le_lt R.frle (Nat.le_refl _)
  ·rcases ZBX (A:=A) (env:=env) (EV.box cs) es with h'|⟨h',_,_⟩
   ·rw [h']
    have hs:=R.slot s
    cases hes:env s with
    | val u=>rw [hes] at hs; simp only [ZC5] at hs ⊢; rw [ZCV a _ es]; exact hs
    | box ds=>
      rw [hes] at hs
      obtain ⟨h1,⟨e',h2⟩,h3,h4⟩:=hs
      simp only [ZC5,if_neg es]
      rw [ZCV a _ es]
      exact ⟨h1,⟨e',by rw [old _ (lt _ _ hes)]; exact h2⟩,h3,h4⟩
    | ref off=>
      rw [hes] at hs
      obtain ⟨t,hr,ht,ds,hb⟩:=hs
      have htd:t≠d:=by
          rintro rfl
          have:Eng.put A env (some t) (.box cs) s=.unk:=by
             simp only [Eng.put,ZSu.2 es,cond_false,hp,hr,ZAL,ZFC.2 rfl,Bool.and_self,cond_true]
          rw [this] at h'; rw [←h'] at hes; cases hes
      simp only [ZC5]
      rw [ZCV a _ es]
      refine ⟨t,hr,by rw [if_neg htd]; exact ht,ds,?_⟩
      rcases ZBX (A:=A) (env:=env) (EV.box cs) htd with h2|⟨_,_,h3⟩
      ·rw [h2]; exact hb
      ·have:=hA _ _ h3; rw [R.prom _ _ hb] at this; cases this
    | unk=>trivial
   ·rw [h']; trivial
 ·intro s ds hs
  by_cases es:s=d
  ·subst es; exact hp
  ·exact R.prom s ds (ob s ds es hs)
 ·intro s t cs' ds hs ht he
  by_cases es:s=d
  ·by_cases et:t=d
   ·rw [es,et]
   ·simp only [es,if_true,if_neg et] at he
    have:=lt t ds (ob t ds et ht); omega
  ·by_cases et:t=d
   ·simp only [et,if_true,if_neg es] at he
    have:=lt s cs' (ob s cs' es hs); omega
   ·simp only [if_neg es,if_neg et] at he
    exact R.inj s t cs' ds (ob s cs' es hs) (ob t ds et ht) he
theorem Rel.setBox (R:Rel A N bx env a h fr w0 w) {t:Nat} {cs cs':List Value} (_hA:A.good) (ht:env t=.box cs) {w':World}
 (hw:∃ e,w'.heap[bx t]?=some (.cells cs'.toArray e (0,0))) (hold:∀ k,k≠bx t→w'.heap[k]?=w.heap[k]?) (same:ZFx w w'):
 ∃ env',env'=(fun s=>if s=t then EV.box cs' else env s)∧Rel A N bx env' a h fr w0 w':=by
 refine ⟨_,rfl,?_⟩
 have hst:=R.slot t
 rw [ht] at hst
 obtain ⟨t1,t2,t3,t4⟩:=hst
 have keep:∀ g:Hp,g.le w→g (bx t)=none→g.le w':=by
  intro g hg h0 k o hk
  rw [hold k (by rintro rfl; rw [h0] at hk; cases hk)]; exact hg k o hk
 have ob:∀ s ds,(if s=t then EV.box cs' else env s)=.box ds→∃ ds',env s=.box ds':=by
  intro s ds hs
  by_cases e:s=t
  ·subst e; exact ⟨_,ht⟩
  ·rw [if_neg e] at hs; exact ⟨_,hs⟩
 refine ⟨R.size,R.defers,keep h R.hle t3,keep fr R.frle t4,R.dj,R.same.trans same,?_,?_,?_⟩
 ·intro s
  by_cases e:s=t
  ·subst e; simp only [if_true]; exact ⟨t1,hw,t3,t4⟩
  ·simp only [if_neg e]
   have hs:=R.slot s
   cases hes:env s with
   | val u=>rw [hes] at hs; exact hs
   | box ds=>
     rw [hes] at hs
     obtain ⟨h1,⟨e',h2⟩,h3,h4⟩:=hs
     exact ⟨h1,⟨e',by rw [hold _ (fun hb=>e (R.inj _ _ _ _ hes ht hb))]; exact h2⟩,h3,h4⟩
   | ref off=>
     rw [hes] at hs
     obtain ⟨u,hr,hu,ds,hb⟩:=hs
     refine ⟨u,hr,hu,?_⟩
     by_cases eu:u=t
     ·exact ⟨cs',if_pos eu⟩
     ·exact ⟨ds,by show (if u=t then _ else _)=_; rw [if_neg eu]; exact hb⟩
   | unk=>trivial
 ·intro s ds hs
  obtain ⟨ds',h'⟩:=ob s ds hs
  exact R.prom s ds' h'
 ·intro s u ds es hs hu he
  obtain ⟨ds',h1⟩:=ob s ds hs
  obtain ⟨es',h2⟩:=ob u es hu
  exact R.inj s u ds' es' h1 h2 he
end
section
variable {P:Program} {w:World}
theorem ZIR {t:TypeId} {i:TypeInfo} (h:P.info? t=some i):(typeInfo t).run P w=.ok i w:=by
 simp only [typeInfo,Sem.run_bind,run_program,Result.andThen_ok,h]; rfl
theorem ZBn {t:TypeId} {n:Nat} (h:ZAl P t=some n):(sizeOf t).run P w=.ok n w:=by
 unfold ZAl at h
 cases hi:P.info? t with
 | none=>rw [hi] at h; cases h
 | some i=>rw [hi] at h; simp only [Option.some.injEq] at h; subst h; simp only [sizeOf,Sem.run_bind,ZIR hi,Result.andThen_ok]; rfl
theorem ZMV {t:TypeId} {n:Nat} (h:ZAl P t=some n):P.cellsOf t=n:=by
 unfold ZAl at h
 unfold Program.cellsOf
 cases hi:P.info? t with
 | none=>rw [hi] at h; cases h
 | some i=>rw [hi] at h; simp only [Option.some.injEq] at h; subst h; rfl
theorem Zc {t:TypeId} {d:TypeDesc} (h:P.underlying t=some d):(underlying t).run P w=.ok d w:=by
 simp only [underlying,Sem.run_bind,run_program,Result.andThen_ok,h]; rfl
theorem ZGq {t:TypeId} {d:TypeDesc} (h:P.underlying t=some d):(isAgg t).run P w=.ok (ZCE P t) w:=by
 unfold isAgg ZCE
 simp only [Sem.run_bind,Zc h,Result.andThen_ok,h]
 cases d<;>rfl
theorem ZDB {t:TypeId} {z:Value} (h:ZDA P t=some z):(zeroValue t).run P w=.ok z w:=by
 unfold ZDA at h
 cases hi:P.info? t with
 | none=>rw [hi] at h; cases h
 | some i=>rw [hi] at h; simp only at h; simp only [zeroValue,Sem.run_bind,ZIR hi,Result.andThen_ok,h]; rfl
theorem ZLy {t:TypeId} {n:Nat} (h:ZAl P t=some n):∃ i,P.info? t=some i∧i.size=n∧i.bytes=ZAu P t:=by
 unfold ZAl at h
 unfold ZAu
 cases hi:P.info? t with
 | none=>rw [hi] at h; cases h
 | some i=>rw [hi] at h; simp only [Option.some.injEq] at h; exact ⟨i,rfl,h,rfl⟩
theorem ZBc {b:Nat} {cs:Array Value} {e:TypeId} {fz:Nat×Nat} (hb:w.heap[b]?=some (.cells cs e fz)) (i:Nat):w.cell? ⟨b,i,none⟩=cs[i]?:=by
 simp [World.cell?,hb]
theorem ZHB {b:Nat} {cs:Array Value} {e:TypeId} (hb:w.heap[b]?=some (.cells cs e (0,0))) (i:Nat):w.frozen? ⟨b,i,none⟩=false:=by
 simp [World.frozen?,hb]
theorem ZEM (b o i:Nat):(⟨b,o,none⟩:Addr).add i=⟨b,o+i,none⟩:=by
 unfold Addr.add
 split
 ·rename_i h; subst h; rfl
 ·rfl
theorem ZJE {v:Value} (h:ZF7 v=true):v.oneCell'=true:=by cases v<;>first|rfl|cases h
theorem ZFE {v:Value} (h:ZF7 v=true):v.cells=#[v]:=by cases v<;>first|rfl|cases h
theorem ZOk {l:List Value}:ZIS l=true↔∀ v∈l,ZF7 v=true:=by
 induction l with
 | nil=>simp [ZIS]
 | cons x l ih=>simp [ZIS,ih]
theorem ZDD {t:TypeId} {n:Nat} (hs:ZAl P t=some n) (hu:∃ d,P.underlying t=some d) {a:Addr} {cs:List Value} (hl:cs.length=n)
 (hc:∀ j v,cs[j]?=some v→w.cell? (a.add j)=some v) (h1:ZCE P t=false→n=1):
 (loadVar t a).run P w=.ok (if ZCE P t then .agg cs.toArray else cs.getD 0 undef) w:=by
 obtain ⟨d,hd⟩:=hu
 unfold loadVar
 simp only [Sem.run_bind,ZGq hd,Result.andThen_ok]
 cases hg:ZCE P t with
 | true=>
   simp only [if_true,Sem.run_bind,ZBn hs,Result.andThen_ok]
   rw [←hl,run_loadCells_list (P:=P) w a cs hc]
   rfl
 | false=>
   have hn:=h1 hg
   have hlen:cs.length=1:=by omega
   obtain ⟨v,rfl⟩:∃ v,cs=[v]:=by
    match cs,hlen with
    | [v],_=>exact ⟨v,rfl⟩
   have:=hc 0 v rfl
   rw [show a.add 0=a from rfl] at this
   simp only [Bool.false_eq_true,if_false,run_load,this]
   rfl
def wrW (w:World) (a:Addr):Nat→List Value→World
 | _,[]=>w
 | i,v::l=>wrW (w.setCell (a.add i) v) a (i+1) l
theorem ZBZ (a:Addr):∀ (vs:List Value) (i:Nat) (w:World),(∀ j,j<vs.length→(∃ v,w.cell? (a.add (i+j))=some v)∧w.frozen? (a.add (i+j))=false)→(∀ v∈vs,ZF7 v=true)→
 (storeCells a vs i).run P w=.ok () (wrW w a i vs):=by
 intro vs
 induction vs with
 | nil=>intro i w _ _; rfl
 | cons v l ih=>
   intro i w hc ho
   obtain ⟨⟨u,h1⟩,h2⟩:=hc 0 (by simp)
   simp only [Nat.add_zero] at h1 h2
   unfold storeCells
   rw [Sem.run_bind,run_store P w (a.add i) v .plain (ZJE (ho v (by simp)))]
   simp only [h1,h2,Bool.false_eq_true,if_false,Result.andThen_ok,wrW]
   refine ih (i+1) (w.setCell (a.add i) v) ?_ (fun x hx=>ho x (List.mem_cons_of_mem _ hx))
   intro j hj
   obtain ⟨⟨u',h1'⟩,h2'⟩:=hc (j+1) (by simp; omega)
   rw [show i+1+j=i+(j+1) by omega]
   refine ⟨?_,by rw [World.frozen?_setCell]; exact h2'⟩
   by_cases e:a.add i=a.add (i+(j+1))
   ·rw [←e]; exact ⟨v,World.cell?_setCell_same w _ v h1⟩
   ·exact ⟨u',by rw [World.cell?_setCell_other w _ _ v e]; exact h1'⟩
theorem ZMh (a:Addr):∀ (vs:List Value) (i:Nat) (w:World),ZFx w (wrW w a i vs):=by
 intro vs
 induction vs with
 | nil=>intro i w; exact ZFx.refl w
 | cons v l ih=>intro i w; exact ZFx.trans (b:=w.setCell (a.add i) v) ⟨rfl,rfl,rfl⟩ (ih _ _)
theorem ZMa (a:Addr):∀ (vs:List Value) (i:Nat) (w:World) (k:Nat),k≠a.block→(wrW w a i vs).heap[k]?=w.heap[k]?:=by
 intro vs
 induction vs with
 | nil=>intro i w k _; rfl
 | cons v l ih=>
   intro i w k hk
   have hb:(a.add i).block=a.block:=by unfold Addr.add; split<;>rfl
   rw [wrW,ih _ _ k hk,World.heap_setCell,if_neg (by rw [hb]; exact hk)]
theorem ZK7 (a:Addr) (i:Nat):(a.add i).block=a.block:=by unfold Addr.add; split<;>rfl
theorem ZX4 (a:Addr):∀ (vs:List Value) (i:Nat) (h:Hp) (w:World),h.le w→(h.wrs a i vs).le (wrW w a i vs):=by
 intro vs
 induction vs with
 | nil=>intro i h w hl; exact hl
 | cons v l ih=>intro i h w hl; exact ih _ _ _ (Hp.setCell_le hl _ _)
theorem ZGn (a:Addr):∀ (vs:List Value) (i:Nat) (h:Hp) (b:Nat),(h.wrs a i vs) b=none↔h b=none:=by
 intro vs
 induction vs with
 | nil=>intro i h b; exact Iff.rfl
 | cons v l ih=>intro i h b; rw [Hp.wrs,ih,Hp.setCell_none]
theorem ZR2 (b o:Nat):∀ (vs:List Value) (i:Nat) (cs:List Value) (w:World) (e:TypeId),w.heap[b]?=some (.cells cs.toArray e (0,0))→o+i+vs.length≤cs.length→
 (wrW w ⟨b,o,none⟩ i vs).heap[b]?=some (.cells (ZEj cs (o+i) vs).toArray e (0,0)):=by
 intro vs
 induction vs with
 | nil=>intro i cs w e hb _; simpa [wrW,ZEj] using hb
 | cons v l ih=>
   intro i cs w e hb hl
   simp only [List.length_cons] at hl
   rw [wrW,ZEM]
   have h1:(w.setCell ⟨b,o+i,none⟩ v).heap[b]?=some (.cells (cs.set (o+i) v).toArray e (0,0)):=by
    rw [World.heap_setCell,if_pos rfl,hb]
    simp [ZM9]
   rw [ih (i+1) _ _ e h1 (by simp; omega)]
   congr 2
   congr 1
   unfold ZEj
   have hlt:o+i<cs.length:=by omega
   apply List.ext_getElem?
   intro j
   simp only [List.getElem?_append,List.getElem?_take,List.length_take,List.length_set,List.getElem?_drop,List.getElem?_set,List.length_cons]
   rw [show min (o+(i+1)) cs.length=o+i+1 by omega,show min (o+i) cs.length=o+i by omega]
   by_cases h1:j<o+i
   ·simp [h1,show j<o+i+1 by omega,show j<o+(i+1) by omega,show ¬(o+i=j) by omega]
   ·by_cases h2:j=o+i
    ·subst h2; simp [hlt]
    ·simp only [h1,show ¬(j<o+i+1) by omega,if_false]
     rw [show j-(o+i)=(j-(o+i+1))+1 by omega]
     simp only [Nat.add_lt_add_iff_right,List.getElem?_cons_succ]
     by_cases h3:j-(o+i+1)<l.length
     ·simp [h3]
     ·simp only [h3,if_false]
      rw [if_neg (by omega)]
      congr 1; omega
end
def Did (P:Program) (o:Oper) (a:Act) (w:World) (a':Act) (w':World):Prop:=
 (∃ v,(execOp a.eval o).run P w=.ok (.value v) w'∧a'=a.put o.dst v)∨((execOp a.eval o).run P w=.ok .skip w'∧a'=a.put o.dst undef)
section
variable {P:Program} {A:Ann} {N:Nat} {bx:Nat→Nat} {env:Env} {a:Act} {h fr:Hp} {w0 w:World}
def ZAB (A:Ann) (N:Nat) (P:Program) (o:Oper) (env:Env) (a:Act) (h fr:Hp) (w0 w:World) (k:EV→Prop):Prop:=
 ∃ ev bx' a' w',k ev∧Rel A N bx' (put A env (ZAr A o) ev) a' h fr w0 w'∧Did P o a w a' w'
theorem ZAB.val (R:Rel A N bx env a h fr w0 w) (hA:A.good) {o:Oper} (hd:∀ k,o.dst=some k→k<N) (he:ZAr A o=o.dst) {k:EV→Prop} {ev:EV} {v:Value}
 (hr:(execOp a.eval o).run P w=.ok (.value v) w) (hv:ZYd A bx env o.dst ev v) (hk:k ev):ZAB A N P o env a h fr w0 w k:=
 ⟨ev,bx,a.put o.dst v,w,hk,he▸R.put hA hd hv,.inl ⟨v,hr,rfl⟩⟩
theorem ZAB.moveL (R:Rel A N bx env a h fr w0 w) (hA:A.good) {o:Oper} (hd:∀ k,o.dst=some k→k<N) (he:ZAr A o=o.dst) {k:EV→Prop} {x:Operand}
 (hr:(execOp a.eval o).run P w=.ok (.value (a.eval x)) w) (hk:Eng.moveL A o.dst (look A env x) k):ZAB A N P o env a h fr w0 w k:=by
 unfold Eng.moveL at hk
 cases hl:look A env x with
 | v v=>rw [hl] at hk; exact ZAB.val R hA hd he hr (ev:=.val v) (R.eval_v hl).symm hk
 | r t off cs=>
   rw [hl] at hk
   obtain ⟨e1,e2,_⟩:=R.eval_r hl
   cases hds:o.dst with
   | none=>rw [hds] at hk; exact ZAB.val R hA hd he hr (ev:=.unk) trivial hk
   | some d=>
     rw [hds] at hk
     dsimp only at hk
     cases hs:ZAL (A.refOf d) t with
     | true=>
       rw [hs] at hk
       exact ZAB.val R hA hd he hr (ev:=.ref off) ⟨d,t,hds,ZA3.1 hs,⟨cs,e2⟩,e1⟩ hk
     | false=>rw [hs] at hk; exact ZAB.val R hA hd he hr (ev:=.unk) trivial hk
 | no=>rw [hl] at hk; exact ZAB.val R hA hd he hr (ev:=.unk) trivial hk
theorem ZAB.refTo (R:Rel A N bx env a h fr w0 w) (hA:A.good) {o:Oper} (hd:∀ k,o.dst=some k→k<N) (he:ZAr A o=o.dst) {k:EV→Prop} {t off:Nat} {cs:List Value}
 (hb:env t=.box cs) (hr:(execOp a.eval o).run P w=.ok (.value (.pointer (some ⟨bx t,off,none⟩))) w) (hk:Eng.refTo A o.dst t off k):ZAB A N P o env a h fr w0 w k:=by
 unfold Eng.refTo at hk
 cases hds:o.dst with
 | none=>rw [hds] at hk; exact hk.elim
 | some d=>
   rw [hds] at hk
   dsimp only at hk
   cases hs:ZAL (A.refOf d) t with
   | true=>
     rw [hs] at hk
     exact ZAB.val R hA hd he hr (ev:=.ref off) ⟨d,t,hds,ZA3.1 hs,⟨cs,hb⟩,rfl⟩ hk
   | false=>rw [hs] at hk; exact hk.elim
theorem ZAW (R:Rel A N bx env a h fr w0 w):∀ {xs:List Operand} {vs:List Value},ZHw (look A env) xs=some vs→xs.map a.eval=vs:=by
 intro xs
 induction xs with
 | nil=>intro vs hv; simp [ZHw] at hv; subst hv; rfl
 | cons x l ih=>
   intro vs hv
   unfold ZHw at hv
   split at hv
   ·rename_i v hx
    split at hv
    ·rename_i us hl
     cases hv
     simp [R.eval_v hx,ih hl]
    ·cases hv
   ·cases hv
theorem ZF6 (R:Rel A N bx env a h fr w0 w):∀ {xs:List (Nat×Operand)} {vs:List (Nat×Value)},ZC2 (look A env) xs=some vs→xs.map (fun (i,x)=>(i,a.eval x))=vs:=by
 intro xs
 induction xs with
 | nil=>intro vs hv; simp [ZC2] at hv; subst hv; rfl
 | cons x l ih=>
   intro vs hv
   obtain ⟨i,x⟩:=x
   unfold ZC2 at hv
   split at hv
   ·rename_i v hx
    split at hv
    ·rename_i us hl
     cases hv
     simp [R.eval_v hx,ih hl]
    ·cases hv
   ·cases hv
theorem ZNy {t:TypeId} {xs:List Value} {off:Nat} {v:Value} (hp:ZH9 P t xs off=some v):(part t xs.toArray off).run P w=.ok v w:=by
 unfold ZH9 at hp
 cases hi:P.info? t with
 | none=>rw [hi] at hp; cases hp
 | some i=>
   rw [hi] at hp; simp only at hp
   cases hu:P.underlying t with
   | none=>rw [hu] at hp; cases hp
   | some d=>
     rw [hu] at hp
     have hs:ZAl P t=some i.size:=by simp [ZAl,hi]
     unfold part
     simp only [Sem.run_bind,ZGq hu,Result.andThen_ok,ZCE,hu]
     cases d<;>simp only [Bool.false_eq_true,if_false,if_true] at hp ⊢<;>
      first
       | (rw [show (xs.toArray)[off]?=xs[off]? from by simp,hp]; rfl)
       | (simp only [Sem.run_bind,ZBn hs,Result.andThen_ok]
          cases hp
          simp)
theorem ZFi:∀ {d:Nat} {t:TypeId},ZUi P d t=true→∀ n,d≤n→P.eqGuardType n t=false:=by
 intro d
 induction d with
 | zero=>intro t h; cases h
 | succ d ih=>
   intro t h n hn
   obtain ⟨m,rfl⟩:∃ m,n=m+1:=⟨n-1,by omega⟩
   unfold ZUi at h
   unfold Program.eqGuardType
   split at h
   ·rename_i e; simp [e]
   ·rename_i e; simp [e]
   ·rename_i e; simp [e]
   ·rename_i fs e
    simp only [e]
    simp only [Bool.and_eq_true,List.all_eq_true] at h
    rw [Array.any_eq_false]
    intro i hi
    have:=h.2 fs[i] (by simp)
    simp [ih this.2 m (by omega)]
   ·rename_i n' e he
    simp only [he]
    exact ih h m (by omega)
   ·cases h
theorem ZFs (d:Nat) (t e:TypeId) (len n:Nat) (xs ys:List Value) (hu:P.underlying t=some (.array len e)) (hs:ZAl P e=some n)
 (f:TypeId→Value→Value→Option Bool) (hf:∀ x y r,f e x y=some r→∀ w,(Op.equalIn d e x y).run P w=.ok r w) {r:Bool} (hr:ZYb P f e n xs ys (List.range len)=some r):
 (Op.equalIn (d+1) t (.agg xs.toArray) (.agg ys.toArray)).run P w=.ok r w:=by
 simp only [Op.equalIn,Sem.run_bind,Zc hu,Result.andThen_ok,ZBn hs]
 rw [Std.Legacy.Range.forIn_eq_forIn_range']
 simp only [Std.Legacy.Range.size,Nat.sub_zero,Nat.add_sub_cancel,Nat.div_one]
 rw [←List.range_eq_range']
 generalize List.range len=is at hr
 induction is generalizing r with
 | nil=>simp [ZYb] at hr; subst hr; simp
 | cons i is ih=>
   unfold ZYb at hr
   split at hr
   ·rename_i x y hx hy
    split at hr
    ·rename_i r1 r2 h1 h2
     cases hr
     simp only [List.forIn_cons,Sem.run_bind,ZNy hx,ZNy hy,Result.andThen_ok,hf _ _ _ h1 w,Sem.run_ite]
     cases r1 with
     | false=>simp
     | true=>
       simp only [Bool.not_true,Bool.false_eq_true,if_false,Sem.run_pure,Result.andThen_ok,Bool.true_and]
       exact ih h2
    ·cases hr
   ·cases hr
theorem ZKr (d:Nat) (xs ys:List Value) (f:TypeId→Value→Value→Option Bool):∀ (fs:List Field) (r:Bool),
 (∀ g∈fs,g.name ≠ "_" ∧ ∀ x y r,f g.type x y=some r→∀ w,(Op.equalIn d g.type x y).run P w=.ok r w)→
 ZWw P f xs ys fs=some r→(Op.eqFields d xs.toArray ys.toArray fs).run P w=.ok r w:=by
 intro fs
 induction fs with
 | nil=>intro r _ hr; simp [ZWw] at hr; subst hr; simp [Op.eqFields]
 | cons g gs ih=>
   intro r hg hr
   have hone:∃ x y r1 r2,ZH9 P g.type xs g.offset=some x∧ZH9 P g.type ys g.offset=some y∧f g.type x y=some r1∧ZWw P f xs ys gs=some r2∧r=(r1&&r2):=by
    cases gs with
    | nil=>
      simp only [ZWw] at hr
      split at hr
      ·rename_i x y hx hy; exact ⟨x,y,r,true,hx,hy,hr,rfl,by simp⟩
      ·cases hr
    | cons g' gs=>
      simp only [ZWw] at hr
      split at hr
      ·rename_i x y hx hy
       split at hr
       ·rename_i r1 r2 h1 h2; cases hr; exact ⟨x,y,r1,r2,hx,hy,h1,h2,rfl⟩
       ·cases hr
      ·cases hr
   obtain ⟨x,y,r1,r2,hx,hy,h1,h2,rfl⟩:=hone
   obtain ⟨hn,hf⟩:=hg g (by simp)
   rw [Op.eqFields]
   simp only [if_pos hn,Sem.run_bind,ZNy hx,ZNy hy,hf _ _ _ h1 w,Result.andThen_ok]
   cases r1 with
   | false=>simp
   | true=>simpa using ih r2 (fun g hg'=>hg g (List.mem_cons_of_mem _ hg')) h2
theorem ZTi {x y:Value} {r:Bool} (h:eqI x y=some r):∃ j a b,x=.int j a∧y=.int j b∧r=(a==b):=by
 unfold eqI at h
 split at h
 ·rename_i j a j' b
  split at h
  ·rename_i hj
   have hj:=of_decide_eq_true hj
   subst hj
   cases h
   exact ⟨j,a,b,rfl,rfl,rfl⟩
  ·cases h
 ·cases h
theorem ZT5 {x y:Value} {r:Bool} (h:eqB x y=some r):∃ a b,x=.bool a∧y=.bool b∧r=(a==b):=by
 unfold eqB at h
 split at h
 ·cases h; exact ⟨_,_,rfl,rfl,rfl⟩
 ·cases h
theorem ZS8 {x y:Value} {r:Bool} (h:eqS x y=some r):∃ a b,x=.string a∧y=.string b∧r=(a.toList==b.toList):=by
 unfold eqS at h
 split at h
 ·cases h; exact ⟨_,_,rfl,rfl,rfl⟩
 ·cases h
theorem ZBd {x:Value} {xs:List Value} (h:ZCW x=some xs):x=.agg xs.toArray:=by
 unfold ZCW at h
 split at h
 ·cases h; simp
 ·cases h
theorem ZR5:∀ {d:Nat} {t:TypeId},ZUi P d t=true→∀ {x y:Value} {r:Bool} {m:Nat},eqV P d t x y=some r→d≤m→∀ w,(Op.equalIn m t x y).run P w=.ok r w:=by
 intro d
 induction d with
 | zero=>intro t h; cases h
 | succ d ih=>
   intro t ht x y r m hr hm w
   obtain ⟨m,rfl⟩:∃ n,m=n+1:=⟨m-1,by omega⟩
   unfold ZUi at ht
   unfold eqV at hr
   split at ht
   ·rename_i k e
    rw [e] at hr
    obtain ⟨j,a,b,rfl,rfl,rfl⟩:=ZTi hr
    exact run_equalIn_int w m t j k a b e
   ·rename_i e
    rw [e] at hr
    obtain ⟨a,b,rfl,rfl,rfl⟩:=ZT5 hr
    exact run_equalIn_bool' w m t _ _ e
   ·rename_i e
    rw [e] at hr
    obtain ⟨a,b,rfl,rfl,rfl⟩:=ZS8 hr
    exact run_equalIn_string w m t _ _ e
   ·rename_i fs e
    rw [e] at hr
    simp only [Bool.and_eq_true,Bool.not_eq_true',List.all_eq_true] at ht
    dsimp only at hr
    split at hr
    ·rename_i xs ys hx hy
     rw [ZBd hx,ZBd hy]
     have hf:P.fieldsOf t=fs:=by simp [Program.fieldsOf,e]
     rw [run_equalIn_struct (P:=P) w m t _ _ (by rw [hf]; exact e) ht.1,hf]
     refine ZKr m xs ys (eqV P d) fs.toList r (fun g hg=>?_) hr
     have:=ht.2 g hg
     exact ⟨by simpa using this.1,fun x y r h w=>ih this.2 h (by omega) w⟩
    ·cases hr
   ·rename_i n e he
    rw [he] at hr
    dsimp only at hr
    split at hr
    ·rename_i xs ys hx hy
     rw [ZBd hx,ZBd hy]
     split at hr
     ·rename_i i hi
      exact ZFs m t e n i.size xs ys he (by simp [ZAl,hi]) (eqV P d) (fun x y r h w=>ih ht h (by omega) w) hr
     ·cases hr
    ·cases hr
   ·cases ht
end
section
variable {P:Program} {A:Ann} {N:Nat} {bx:Nat→Nat} {env:Env} {a:Act} {h fr:Hp} {w0 w:World}
def ZYf (A:Ann) (P:Program):Prop:=∀ t,A.eqs t=true→ZUi P 20 t=true
def ZZg (P:Program):Prop:=∀ (g:Nat) (fn:Func),P.funcs[g]?=some fn→(fn.name == "runtime.NumGoroutine")=false
theorem ZNC (d:Nat) {t e:TypeId} (hu:P.underlying t=some (.pointer e)) (p:Option Addr):(Op.equalIn (d+1) t (.pointer p) (.pointer none)).run P w=.ok p.isNone w:=by
 cases p<;>simp [Op.equalIn,Zc hu]
theorem ZSo (d:Nat) {t e:TypeId} (hu:P.underlying t=some (.slice e)) (p:Option Addr) (l c l' c':Nat):(Op.equalIn (d+1) t (.slice p l c) (.slice none l' c')).run P w=.ok p.isNone w:=by
 cases p<;>simp [Op.equalIn,Zc hu]
theorem ZTb (hE:ZYf A P) (hdep:20≤P.depth) {op:BinOp} {t:TypeId} {ox oy:Operand} {x y:Value} {k:EV→Prop} (hk:ZYG A P op t x y k):
 ∃ v,((do eqGuard op t ox oy x y; binOp op t x y:Sem Value)).run P w=.ok v w∧k (.val v):=by
 unfold ZYG at hk
 split at hk
 ·
  rename_i j a j' b
  have hg:(eqGuard op t ox oy (.int j a) (.int j' b)).run P w=.ok () w:=by cases op<;>simp [eqGuard]
  cases op<;>simp only [Sem.run_bind,hg,Result.andThen_ok] at hk ⊢
  case shl=>
   obtain ⟨h0,hk⟩:=hk
   exact ⟨_,by simp only [binOp,Op.shift,if_neg (show ¬b<0 by omega)]; rfl,hk⟩
  case shr=>
   obtain ⟨h0,hk⟩:=hk
   exact ⟨_,by simp only [binOp,Op.shift,if_neg (show ¬b<0 by omega)]; rfl,hk⟩
  all_goals
   split at hk
   ·exact hk.elim
   ·rename_i hj
    have hj:=of_decide_eq_true hj
    subst hj
    first
     | exact ⟨_,by simp only [binOp,ne_eq,not_true_eq_false,if_false]; rfl,hk⟩
     | (obtain ⟨h0,hk⟩:=hk
        exact ⟨_,by simp only [binOp,ne_eq,not_true_eq_false,if_false,Op.intDiv,if_neg h0]; rfl,hk⟩)
 ·rename_i a b
  split at hk
  ·rename_i hu
   exact ⟨_,by simp only [Sem.run_bind,eqGuard,binOp,Op.equal,Op.maxDepth]; simp [run_equalIn_bool w 9999 t a b hu],hk⟩
  ·rename_i hu
   exact ⟨_,by simp only [Sem.run_bind,eqGuard,binOp,Op.equal,Op.maxDepth]; simp [run_equalIn_bool w 9999 t a b hu],hk⟩
  ·exact hk.elim
 ·rename_i a b
  split at hk
  ·exact ⟨_,by simp [eqGuard,binOp,Op.stringOp]; rfl,hk⟩
  ·exact ⟨_,by simp [eqGuard,binOp,Op.stringOp]; rfl,hk⟩
  ·exact hk.elim
 ·rename_i p
  split at hk
  ·rename_i e hu
   refine ⟨_,?_,hk⟩
   have hq:=ZNC (P:=P) (w:=w) 9999 hu p
   simp only [Sem.run_bind,eqGuard,binOp,Op.equal,Op.maxDepth]
   simp [hq]
  ·rename_i e hu
   refine ⟨_,?_,hk⟩
   have hq:=ZNC (P:=P) (w:=w) 9999 hu p
   simp only [Sem.run_bind,eqGuard,binOp,Op.equal,Op.maxDepth]
   simp [hq]
  ·exact hk.elim
 ·rename_i p l c l' c'
  split at hk
  ·rename_i e hu
   refine ⟨_,?_,hk⟩
   have hq:=ZSo (P:=P) (w:=w) 9999 hu p l c l' c'
   simp only [Sem.run_bind,eqGuard,binOp,Op.equal,Op.maxDepth]
   simp [hq]
  ·rename_i e hu
   refine ⟨_,?_,hk⟩
   have hq:=ZSo (P:=P) (w:=w) 9999 hu p l c l' c'
   simp only [Sem.run_bind,eqGuard,binOp,Op.equal,Op.maxDepth]
   simp [hq]
  ·exact hk.elim
 ·rename_i xs ys
  cases hq:A.eqs t with
  | false=>rw [hq] at hk; exact hk.elim
  | true=>
    rw [hq] at hk
    simp only [cond_true] at hk
    have hty:=hE t hq
    have hg:∀ op,(eqGuard op t ox oy (.agg xs) (.agg ys)).run P w=.ok () w:=fun op=>
     run_eqGuard_agg w op t ox oy xs ys (ZFi hty _ hdep)
    split at hk
    ·rename_i r hr
     refine ⟨_,?_,hk⟩
     simp only [Sem.run_bind,hg,Result.andThen_ok]
     rw [run_eql_struct,ZR5 hty hr (by omega) w]; rfl
    ·rename_i r hr
     refine ⟨_,?_,hk⟩
     simp only [Sem.run_bind,hg,Result.andThen_ok]
     rw [run_neq_struct,ZR5 hty hr (by omega) w]; rfl
    ·exact hk.elim
 ·exact hk.elim
theorem ZOB (cs:Array Value) (o n:Nat):cs.extract o (o+n)=((cs.toList.drop o).take n).toArray:=by
 cases cs; simp
theorem ZOg {t:TypeId} {n:Nat} {cs:Array Value} {off:Nat} {k:EV→Prop} (hs:ZAl P t=some n) (hu:∃ d,P.underlying t=some d)
 (hk:ZJW (ZCE P t) n cs.toList off k):∃ v,(part t cs off).run P w=.ok v w∧k (.val v):=by
 obtain ⟨d,hd⟩:=hu
 unfold ZJW at hk
 unfold part
 simp only [Sem.run_bind,ZGq hd,Result.andThen_ok]
 cases hg:ZCE P t with
 | true=>
   rw [hg] at hk
   dsimp only at hk
   cases hb:Nat.ble (off+n) cs.toList.length with
   | false=>rw [hb] at hk; exact hk.elim
   | true=>
     rw [hb] at hk
     exact ⟨_,by simp only [if_true,Sem.run_bind,ZBn hs,Result.andThen_ok,ZOB]; rfl,hk⟩
 | false=>
   rw [hg] at hk
   dsimp only at hk
   split at hk
   ·rename_i v hv
    refine ⟨v,?_,hk⟩
    rw [show cs[off]?=some v by simpa using hv]
    simp
   ·exact hk.elim
def ZU5 (P:Program):Prop:=∀ t n,ZAl P t=some n→∃ d,P.underlying t=some d
theorem ZBj {len cap:Nat} {kl kh:IntKind} {lo hi:Option Int} {isS:Bool} {K:Nat→Nat→Prop} (hk:ZAD len cap lo hi K):
 ∃ l m,(Instr.sliceBounds isS len cap (lo.map (.int kl)) (hi.map (.int kh)) none).run P w=.ok (l,m,cap) w∧K l m:=by
 have hb:∀ (k:IntKind) (i:Int) (y:Nat) (code:BoundsCode),0≤i→i≤y→(Instr.sliceBound (.int k i) y code).run P w=.ok i.toNat w:=by
  intro k i y code h0 h1
  unfold Instr.sliceBound
  simp only [asIntOf,Sem.run_bind,Sem.run_pure,Result.andThen_ok,if_pos (And.intro h0 h1)]
 unfold ZAD at hk
 unfold Instr.sliceBounds
 cases hi with
 | none=>
   cases lo with
   | none=>exact ⟨0,len,by simp,hk⟩
   | some i=>
     obtain ⟨h0,h1,hk⟩:=hk
     exact ⟨i.toNat,len,by simp [hb kl i len _ h0 h1],hk⟩
 | some j=>
   cases lo with
   | none=>
     obtain ⟨h0,h1,hk⟩:=hk
     exact ⟨0,j.toNat,by simp [hb kh j cap _ h0 h1],hk⟩
   | some i=>
     obtain ⟨h0,h1,h2,hk⟩:=hk
     exact ⟨i.toNat,j.toNat,by simp [hb kh j cap _ (by omega) h2,hb kl i j.toNat _ h0 (by omega)],hk⟩
theorem ZJv {len cap:Nat} {kl kh km:IntKind} {lo:Option Int} {j m:Int} {isS:Bool} {K:Nat→Nat→Nat→Prop} (hk:ZH3 cap lo j m K):
 ∃ l h' m',(Instr.sliceBounds isS len cap (lo.map (.int kl)) (some (.int kh j)) (some (.int km m))).run P w=.ok (l,h',m') w∧K l h' m':=by
 have hb:∀ (k:IntKind) (i:Int) (y:Nat) (code:BoundsCode),0≤i→i≤y→(Instr.sliceBound (.int k i) y code).run P w=.ok i.toNat w:=by
  intro k i y code h0 h1
  unfold Instr.sliceBound
  simp only [asIntOf,Sem.run_bind,Sem.run_pure,Result.andThen_ok,if_pos (And.intro h0 h1)]
 unfold ZH3 at hk
 unfold Instr.sliceBounds
 obtain ⟨h1,h2,h3,hk⟩:=hk
 cases lo with
 | none=>exact ⟨0,j.toNat,m.toNat,by simp [hb km m cap _ (by omega) h1,hb kh j m.toNat _ h3 (by omega)],hk⟩
 | some i=>
   obtain ⟨h4,h5,hk⟩:=hk
   exact ⟨i.toNat,j.toNat,m.toNat,by simp [hb km m cap _ (by omega) h1,hb kh j m.toNat _ h3 (by omega),hb kl i j.toNat _ h4 (by omega)],hk⟩
end
section
variable {P:Program} {A:Ann} {N:Nat} {bx:Nat→Nat} {env:Env} {a:Act} {h fr:Hp} {w0 w:World}
structure ZGb (P:Program) (A:Ann):Prop where
 good:A.good
 eqs:ZYf A P
 dep:20≤P.depth
 noNG:ZZg P
 formed:ZU5 P
theorem ZOb (fs:Array Field) (hs:fs.all (fun f=>(ZAl P f.type).isSome)=true) (w:World):
 (fs.mapM (fun f=>(do pure (f.offset,←sizeOf f.type):Sem (Nat×Nat)))).run P w=.ok (fs.map fun f=>(f.offset,P.cellsOf f.type)) w:=by
 obtain ⟨l⟩:=fs
 rw [List.mapM_toArray]
 simp only [Array.all_eq_true_iff_forall_mem,List.mem_toArray] at hs
 have:∀ (l:List Field),(∀ f∈l,(ZAl P f.type).isSome=true)→(l.mapM (fun f=>(do pure (f.offset,←sizeOf f.type):Sem (Nat×Nat)))).run P w=.ok (l.map fun f=>(f.offset,P.cellsOf f.type)) w:=by
  intro l
  induction l with
  | nil=>intro _; rfl
  | cons f l ih=>
    intro hl
    obtain ⟨n,hn⟩:=Option.isSome_iff_exists.1 (hl f (by simp))
    simp only [List.mapM_cons,Sem.run_bind,ZBn hn,Result.andThen_ok,Sem.run_pure,ih (fun g hg=>hl g (List.mem_cons_of_mem _ hg)),List.map_cons,ZMV hn]
 rw [Sem.run_map,this l hs]
 simp
theorem ZNZ {b off:Nat} {cs:List Value} {e:TypeId} (hb:w.heap[b]?=some (.cells cs.toArray e (0,0))) {n:Nat} (_hl:off+n≤cs.length):
 ∀ j v,((cs.drop off).take n)[j]?=some v→w.cell? ((⟨b,off,none⟩:Addr).add j)=some v:=by
 intro j v hj
 rw [ZEM,ZBc hb]
 rw [List.getElem?_take] at hj
 split at hj
 ·rw [List.getElem?_drop] at hj; simpa using hj
 ·cases hj
theorem ZXm (hP:ZGb P A) (R:Rel A N bx env a h fr w0 w) {o:Oper} (hd:∀ k,o.dst=some k→k<N) (hc:cls A P o=.p) {k:EV→Prop}
 (hk:opP A P o (look A env) k):ZAB A N P o env a h fr w0 w k:=by
 obtain ⟨dst,op,type,pos,after,guard⟩:=o
 have he:(∀ t x y,op≠.store t x y)→ZAr A ⟨dst,op,type,pos,after,guard⟩=dst:=by
  intro hs
  cases op<;>first|rfl|exact absurd rfl (hs _ _ _)
 cases op
 case move x=>exact ZAB.moveL R hP.good hd (he (by simp)) (x:=x) rfl hk
 case assign x=>exact ZAB.moveL R hP.good hd (he (by simp)) (x:=x) rfl hk
 case pick c x y=>
  simp only [opP] at hk
  split at hk
  ·rename_i t ht
   have e:=R.eval_v ht
   cases t with
   | true=>exact ZAB.moveL R hP.good hd (he (by simp)) (x:=x) (by simp [execOp,e,asBool]) hk
   | false=>exact ZAB.moveL R hP.good hd (he (by simp)) (x:=y) (by simp [execOp,e,asBool]) hk
  ·exact hk.elim
 case alloc elem=>
  simp only [opP] at hk
  simp only [cls] at hc
  cases dst with
  | none=>cases hc
  | some d=>
    cases hp:A.isProm d with
    | false=>simp [hp] at hc
    | true=>
      split at hk
      ·rename_i z hz
       refine ⟨_,_,_,_,hk,R.newBox hP.good (hd d rfl) hp z.cells.toList elem,.inl ⟨.pointer (some ⟨w.heap.size,0,none⟩),?_,rfl⟩⟩
       simp [execOp,Instr.alloc,ZDB hz,newVar,newRow]
      ·exact hk.elim
 case box elem x=>
  simp only [opP] at hk
  simp only [cls] at hc
  cases dst with
  | none=>cases hc
  | some d=>
    cases hp:A.isProm d with
    | false=>simp [hp] at hc
    | true=>
      split at hk
      ·rename_i z hz
       refine ⟨_,_,_,_,hk,R.newBox hP.good (hd d rfl) hp z.cells.toList elem,.inl ⟨.pointer (some ⟨w.heap.size,0,none⟩),?_,rfl⟩⟩
       simp [execOp,Instr.box,R.eval_v hz,newVar,newRow]
      ·exact hk.elim
 case build t ps=>
  simp only [opP] at hk
  split at hk
  ·rename_i l z fs hl hz hu
   have hl':=ZF6 R hl
   split at hk
   ·rename_i cs hf
    unfold ZYF at hf
    refine ZAB.val R hP.good hd (he (by simp)) (v:=.agg cs) (ev:=.val (.agg cs)) ?_ rfl hk
    cases hsz:fs.all (fun f=>(ZAl P f.type).isSome) with
    | false=>rw [hsz] at hf; cases hf
    | true=>
      rw [hsz] at hf
      simp only [cond_true] at hf
      have hps:ps.map (fun x=>(x.1,a.eval x.2))=l.toArray:=Array.ext' (by simp [←hl'])
      simp only [execOp,Instr.build,Sem.run_bind,ZDB hz,Zc hu,Result.andThen_ok,ZOb fs hsz]
      simp only [hps,Array.getElem?_map]
      rw [hf]; rfl
   ·exact hk.elim
  ·rename_i l z n e hl hz hu
   have hl':=ZF6 R hl
   split at hk
   ·rename_i cs hf
    unfold ZYl at hf
    refine ZAB.val R hP.good hd (he (by simp)) (v:=.agg cs) (ev:=.val (.agg cs)) ?_ rfl hk
    cases hsz:ZAl P e with
    | none=>rw [hsz] at hf; cases hf
    | some n'=>
      rw [hsz] at hf
      dsimp only at hf
      have hps:ps.map (fun x=>(x.1,a.eval x.2))=l.toArray:=Array.ext' (by simp [←hl'])
      simp only [execOp,Instr.build,Sem.run_bind,ZDB hz,Zc hu,Result.andThen_ok,ZBn hsz]
      simp only [hps]
      rw [hf]; rfl
   ·exact hk.elim
  ·exact hk.elim
 case nilCheck x=>
  simp only [opP] at hk
  split at hk
  ·rename_i p hx
   cases p with
   | none=>exact hk.elim
   | some ad=>
   exact ZAB.val R hP.good hd (he (by simp)) (v:=.pointer (some ad)) (ev:=.val _) (by simp [execOp,R.eval_v hx]) rfl hk
  ·rename_i f p q hx
   exact ZAB.val R hP.good hd (he (by simp)) (v:=.func (.func f) p q) (ev:=.val _) (by simp [execOp,R.eval_v hx]) rfl hk
  ·rename_i t off cs hx
   obtain ⟨e1,e2,_⟩:=R.eval_r hx
   exact ZAB.refTo R hP.good hd (he (by simp)) e2 (by simp [execOp,e1]) hk
  ·exact hk.elim
 case binOp op t x y ty=>
  simp only [opP] at hk
  split at hk
  ·rename_i u v hu hv
   obtain ⟨r,hr,hk⟩:=ZTb (w:=w) (ox:=x) (oy:=y) hP.eqs hP.dep hk
   exact ZAB.val R hP.good hd (he (by simp)) (v:=r) (ev:=.val r) (by simp only [execOp,R.eval_v hu,R.eval_v hv]; rw [Sem.run_bind,hr]; rfl) rfl hk
  ·exact hk.elim
 case unOp op t x=>
  simp only [opP] at hk
  split at hk
  ·rename_i j n hx
   exact ZAB.val R hP.good hd (he (by simp)) (v:=.int j (j.wrap (0-n))) (ev:=.val _) (by simp [execOp,R.eval_v hx,Op.unary,Op.intArith]) rfl hk
  ·rename_i b hx
   exact ZAB.val R hP.good hd (he (by simp)) (v:=.bool (!b)) (ev:=.val _) (by simp [execOp,R.eval_v hx,Op.unary]) rfl hk
  ·exact hk.elim
 case convert s d x=>
  simp only [opP] at hk
  split at hk
  ·rename_i j1 j j2 n hs hd' hx
   exact ZAB.val R hP.good hd (he (by simp)) (v:=.int j (j.wrap n)) (ev:=.val _) (by simp [execOp,R.eval_v hx,convert,Zc hs,Zc hd',Conv.intToInt]) rfl hk
  ·exact hk.elim
 case makeInterface t x=>
  simp only [opP] at hk
  split at hk
  ·exact hk.elim
  ·rename_i d v hne hu hx
   refine ZAB.val R hP.good hd (he (by simp)) (v:=.iface t v) (ev:=.val _) ?_ rfl hk
   simp only [execOp,Instr.makeInterface,R.eval_v hx,Sem.run_bind,Zc hu,Result.andThen_ok]
   cases d<;>first|rfl|(exfalso; simp at hne)
  ·exact hk.elim
 case makeFunc fn first captured=>
  simp only [opP] at hk
  split at hk
  ·rename_i l m hl hm
   refine ZAB.val R hP.good hd (he (by simp)) (v:=.func fn l.toArray m.toArray) (ev:=.val _) ?_ rfl hk
   have h1:=ZAW R hl
   have h2:=ZAW R hm
   simp only [execOp,Instr.makeFunc]
   rw [show Array.map a.eval first=l.toArray from Array.ext' (by simp [←h1]),show Array.map a.eval captured=m.toArray from Array.ext' (by simp [←h2])]
   rfl
  ·exact hk.elim
 case fieldAddr s x f=>
  simp only [opP] at hk
  split at hk
  ·rename_i fs hu
   split at hk
   ·rename_i fd hf
    split at hk
    ·rename_i n hn
     have hrun:∀ ad:Addr,(Instr.fieldAt s (.pointer (some ad)) f).run P w=.ok (.pointer (some (ad.add fd.offset))) w:=by
          intro ad
          simp [Instr.fieldAt,Zc hu,hf,Instr.sureAddr,fieldPlace,ZBn hn]
     split at hk
     ·rename_i ad hx
      exact ZAB.val R hP.good hd (he (by simp)) (v:=.pointer (some (ad.add fd.offset))) (ev:=.val _) (by simp [execOp,R.eval_v hx,hrun]) rfl hk
     ·rename_i t off cs hx
      obtain ⟨e1,e2,_⟩:=R.eval_r hx
      exact ZAB.refTo R hP.good hd (he (by simp)) e2 (by simp only [execOp,e1,Sem.run_bind,hrun,ZEM]; rfl) hk
     ·exact hk.elim
    ·exact hk.elim
   ·exact hk.elim
  ·exact hk.elim
 case field s x f=>
  simp only [opP] at hk
  split at hk
  ·rename_i fs hu
   split at hk
   ·rename_i fd hf
    split at hk
    ·rename_i n cs hn hx
     obtain ⟨v,hr,hk⟩:=ZOg (w:=w) hn (hP.formed _ _ hn) hk
     exact ZAB.val R hP.good hd (he (by simp)) (v:=v) (ev:=.val v) (by simp [execOp,Instr.field,R.eval_v hx,Zc hu,hf,asAgg,hr]) rfl hk
    ·exact hk.elim
   ·exact hk.elim
  ·exact hk.elim
 case load t x=>
  simp only [opP] at hk
  split at hk
  ·rename_i n bt off cs hn hx
   obtain ⟨e1,e2,_⟩:=R.eval_r hx
   have hs:=R.slot bt
   rw [e2] at hs
   obtain ⟨_,⟨e,hb⟩,_,_⟩:=hs
   have hu:=hP.formed _ _ hn
   obtain ⟨d,hd'⟩:=hu
   cases hdy:ZQq A x with
   | true=>
     rw [hdy] at hk
     simp only [cond_true] at hk
     split at hk
     ·rename_i c hcd
      cases hft:ZAn P c t with
      | false=>rw [hft] at hk; exact hk.elim
      | true=>
        rw [hft] at hk
        simp only [cond_true] at hk
        obtain ⟨y,hy,hk⟩:=hk
        simp only [ZAn,Bool.and_eq_true,hn,ZFC] at hft
        obtain ⟨⟨hmem,hag⟩,hnn⟩:=hft
        have hag:c.agg=ZCE P t:=by simpa using hag
        have hform:=c.form hmem y
        refine ZAB.val R hP.good hd (he (by simp)) (v:=c.enc y) (ev:=.val _) ?_ rfl hk
        simp only [execOp,Instr.loadAt,Instr.sureAddr,e1,Sem.run_bind]
        have hrd:∀ j v,(c.enc y).cells.toList[j]?=some v→w.cell? ((⟨bx bt,off,none⟩:Addr).add j)=some v:=by
           intro j v hj
           rw [ZEM,ZBc hb]
           simpa using hy j v hj
        cases hg:c.agg with
        | true=>
          rw [hg] at hform
          obtain ⟨xs,hxs,hlen,_⟩:=hform
          rw [hxs] at hrd ⊢
          have:=ZDD (P:=P) (w:=w) hn ⟨d,hd'⟩ (cs:=xs) (by omega) (by simpa [Value.cells] using hrd) (by rw [←hag,hg]; simp)
          simp only [Sem.run_pure,Result.andThen_ok]
          rw [this,←hag,hg]; rfl
        | false=>
          rw [hg] at hform
          obtain ⟨hone,hn1⟩:=hform
          rw [ZFE hone] at hrd
          have:=ZDD (P:=P) (w:=w) hn ⟨d,hd'⟩ (cs:=[c.enc y]) (by simp; omega) hrd (by intro; omega)
          simp only [Sem.run_pure,Result.andThen_ok]
          rw [this,←hag,hg]; rfl
     ·exact hk.elim
   | false=>
     rw [hdy] at hk
     simp only [cond_false] at hk
     unfold ZJW at hk
     cases hg:ZCE P t with
     | true=>
       rw [hg] at hk
       dsimp only at hk
       cases hl:Nat.ble (off+n) cs.length with
       | false=>rw [hl] at hk; exact hk.elim
       | true=>
         rw [hl] at hk
         have hl:off+n≤cs.length:=Nat.le_of_ble_eq_true hl
         refine ZAB.val R hP.good hd (he (by simp)) (v:=.agg ((cs.drop off).take n).toArray) (ev:=.val _) ?_ rfl hk
         have:=ZDD (P:=P) (w:=w) hn ⟨d,hd'⟩ (cs:=(cs.drop off).take n) (by simp; omega) (ZNZ hb hl) (by rw [hg]; simp)
         simp only [execOp,Instr.loadAt,Instr.sureAddr,e1,Sem.run_bind,Sem.run_pure,Result.andThen_ok,this,hg]
         rfl
     | false=>
       rw [hg] at hk
       dsimp only at hk
       split at hk
       ·rename_i v hv
        refine ZAB.val R hP.good hd (he (by simp)) (v:=v) (ev:=.val v) ?_ rfl hk
        have hlt:=(List.getElem?_eq_some_iff.1 hv).1
        simp only [execOp,Instr.loadAt,Instr.sureAddr,e1,Sem.run_bind,Sem.run_pure,Result.andThen_ok,loadVar,ZGq hd',hg,Bool.false_eq_true,if_false]
        rw [run_load,ZBc hb,show cs.toArray[off]?=some v by simpa using hv]
        rfl
       ·exact hk.elim
  ·exact hk.elim
 case store t x y=>
  simp only [opP] at hk
  split at hk
  ·rename_i n bt off cs v hn hx hy
   obtain ⟨e1,e2,s,rfl,hs⟩:=R.eval_r hx
   have heff:ZAr A ⟨none,.store t (.tmp s) y,type,pos,after,guard⟩=some bt:=by
    simp only [ZAr]
    rcases hs with ⟨rfl,_,hp⟩|⟨hr,_⟩
    ·simp [hp]
    ·simp [hP.good _ _ hr,hr]
   have hpb:A.isProm bt=true:=R.prom _ _ e2
   have hslot:=R.slot bt
   rw [e2] at hslot
   obtain ⟨_,⟨e,hb⟩,_,_⟩:=hslot
   cases hsz:(Nat.beq v.cells.size n&&ZIS v.cells.toList) with
   | false=>rw [hsz] at hk; exact hk.elim
   | true=>
     rw [hsz] at hk
     simp only [cond_true] at hk
     simp only [Bool.and_eq_true,ZFC,ZOk] at hsz
     obtain ⟨hsz,hones⟩:=hsz
     -- the common end
     have fin:∀ cs':List Value,off+v.cells.toList.length≤cs.length→cs'=ZEj cs off v.cells.toList→k (.box cs')→
          ZAB A N P ⟨none,.store t (.tmp s) y,type,pos,after,guard⟩ env a h fr w0 w k:=by
         intro cs' hl hcs hk
         have hrun:=ZBZ (P:=P) ⟨bx bt,off,none⟩ v.cells.toList 0 w (fun j hj=>by
          rw [ZEM,ZBc hb,ZHB hb]
          refine ⟨?_,rfl⟩
          have:off+(0+j)<cs.length:=by omega
          exact ⟨cs[off+(0+j)],by simp⟩) hones
         obtain ⟨env',rfl,R'⟩:=R.setBox hP.good e2 (w':=wrW w ⟨bx bt,off,none⟩ 0 v.cells.toList) (cs':=cs')
          ⟨e,by rw [ZR2 (bx bt) off _ 0 cs w e hb (by omega),hcs]; rfl⟩ (fun k hk=>ZMa _ _ _ _ _ hk) (ZMh _ _ _ _)
         refine ⟨.box cs',bx,a,wrW w ⟨bx bt,off,none⟩ 0 v.cells.toList,hk,?_,.inr ⟨?_,rfl⟩⟩
         ·rw [heff]
          -- forget the addresses in it
          refine ⟨R'.size,R'.defers,R'.hle,R'.frle,R'.dj,R'.same,?_,?_,?_⟩
          ·intro u
           by_cases eu:u=bt
           ·subst eu; rw [ZBy]; have:=R'.slot u; simp only [if_true] at this; exact this
           ·rcases ZBX (A:=A) (env:=env) (EV.box cs') eu with h'|⟨h',_,_⟩
            ·rw [h']
             have:=R'.slot u
             simp only [if_neg eu] at this
             cases hu:env u with
             | val z=>rw [hu] at this; exact this
             | box z=>rw [hu] at this; exact this
             | ref off'=>
               rw [hu] at this
               obtain ⟨t',hr',ht',ds,hb'⟩:=this
               refine ⟨t',hr',ht',ds,?_⟩
               by_cases et:t'=bt
               ·subst et
                exfalso
                have:put A env (some t') (.box cs') u=.unk:=by
                   simp only [put,ZSu.2 eu,cond_false,hpb,hr',ZAL,ZFC.2 rfl,Bool.and_self,cond_true]
                rw [this] at h'; rw [←h'] at hu; cases hu
               ·replace hb':(if t'=bt then EV.box cs' else env t')=.box ds:=hb'
                rw [if_neg et] at hb'
                rcases ZBX (A:=A) (env:=env) (EV.box cs') et with h2|⟨_,_,h3⟩
                ·rw [h2]; exact hb'
                ·have:=hP.good _ _ h3; rw [R.prom _ _ hb'] at this; cases this
             | unk=>trivial
            ·rw [h']; trivial
          ·intro u ds hu
           by_cases eu:u=bt
           ·subst eu; exact hpb
           ·rcases ZBX (A:=A) (env:=env) (EV.box cs') eu with h'|⟨h',_,_⟩
            ·rw [h'] at hu; exact R.prom _ _ hu
            ·rw [h'] at hu; cases hu
          ·intro u u' ds ds' hu hu' hbb
           have back:∀ z zs,put A env (some bt) (.box cs') z=.box zs→∃ zs',env z=.box zs':=by
             intro z zs hz
             by_cases ez:z=bt
             ·subst ez; exact ⟨_,e2⟩
             ·rcases ZBX (A:=A) (env:=env) (EV.box cs') ez with h'|⟨h',_,_⟩
              ·rw [h'] at hz; exact ⟨_,hz⟩
              ·rw [h'] at hz; cases hz
           obtain ⟨_,g1⟩:=back u ds hu
           obtain ⟨_,g2⟩:=back u' ds' hu'
           exact R.inj _ _ _ _ g1 g2 hbb
         ·simp only [execOp,Instr.storeAt,Instr.sureAddr,e1,R.eval_v hy,Sem.run_bind,Sem.run_pure,Result.andThen_ok,storeVar,ZBn hn]
          rw [if_neg (by simp [hsz])]
          simp only [hrun,Result.andThen_ok]
     cases hdy:ZQq A (.tmp s) with
     | true=>
       rw [hdy] at hk
       simp only [cond_true] at hk
       split at hk
       ·rename_i c hcd
        obtain ⟨hl,z,hz,hk⟩:=hk
        exact fin _ hl hz hk
       ·exact hk.elim
     | false=>
       rw [hdy] at hk
       simp only [cond_false] at hk
       cases hl:Nat.ble (off+n) cs.length with
       | false=>rw [hl] at hk; exact hk.elim
       | true=>
         rw [hl] at hk
         have hl:=Nat.le_of_ble_eq_true hl
         exact fin _ (by simp; omega) rfl hk
  ·exact hk.elim
 case indexAddr t x ix=>
  simp only [opP] at hk
  split at hk
  ·rename_i e j i hu hi
   have ei:=R.eval_v hi
   split at hk
   ·rename_i n b len cap hn hx
    obtain ⟨h0,h1,hk⟩:=hk
    cases b with
    | none=>exact hk.elim
    | some ad=>
    refine ZAB.val R hP.good hd (he (by simp)) (v:=.pointer (some (ad.add (i.toNat*n)))) (ev:=.val _) ?_ rfl hk
    simp [execOp,Instr.indexAt,ei,R.eval_v hx,asIntOf,Zc hu,h0,h1,ZBn hn]
   ·exact hk.elim
  ·rename_i len e j i hu hi
   have ei:=R.eval_v hi
   split at hk
   ·rename_i n ad hn hx
    obtain ⟨h0,h1,hk⟩:=hk
    refine ZAB.val R hP.good hd (he (by simp)) (v:=.pointer (some (ad.add (i.toNat*n)))) (ev:=.val _) ?_ rfl hk
    simp [execOp,Instr.indexAt,ei,R.eval_v hx,asIntOf,Zc hu,Instr.sureAddr,h0,h1,ZBn hn]
   ·rename_i n bt off cs hn hx
    obtain ⟨h0,h1,hk⟩:=hk
    obtain ⟨e1,e2,_⟩:=R.eval_r hx
    refine ZAB.refTo R hP.good hd (he (by simp)) e2 ?_ hk
    simp [execOp,Instr.indexAt,ei,e1,asIntOf,Zc hu,Instr.sureAddr,h0,h1,ZBn hn,ZEM]
   ·exact hk.elim
  ·exact hk.elim
 case index t x ix=>
  simp only [opP] at hk
  split at hk
  ·rename_i s j i hu hx hi
   obtain ⟨h0,h1,hk⟩:=hk
   refine ZAB.val R hP.good hd (he (by simp)) (v:=.int .u8 ((s.data.getD i.toNat 0).toNat:Int)) (ev:=.val _) ?_ rfl hk
   have hlt:i.toNat<s.size:=by omega
   have hg:s[i.toNat]?=some (s.data.getD i.toNat 0):=by
    have h2:i.toNat<s.data.size:=hlt
    rw [getElem?_pos s i.toNat hlt]
    unfold Array.getD; rw [dif_pos h2]; rfl
   simp [execOp,Instr.index,R.eval_v hi,R.eval_v hx,asIntOf,Zc hu,h0,hg]
  ·exact hk.elim
 case slice t x lo hi mx=>
  simp only [opP] at hk
  have hmap:∀ {o:Option Operand} {l:Option LV} ,o.map (look A env)=l→(l=none→o.map a.eval=none)∧(∀ v,l=some (.v v)→o.map a.eval=some v):=by
   intro o l ho
   cases o with
   | none=>exact ⟨fun _=>rfl,fun v hv=>(by rw [hv] at ho; cases ho)⟩
   | some y=>
     refine ⟨fun hl=>(by rw [hl] at ho; cases ho),fun v hv=>?_⟩
     rw [hv] at ho
     have hy:look A env y=.v v:=Option.some.inj ho
     simp [R.eval_v hy]
  split at hk
  ·rename_i e p len cap hu hx
   split at hk
   ·exact hk.elim
   ·rename_i n hn
    have main:∀ (vlo vhi vmx:Option Value) (l m c:Nat),lo.map a.eval=vlo→hi.map a.eval=vhi→mx.map a.eval=vmx→
          (Instr.sliceBounds true len cap vlo vhi vmx).run P w=.ok (l,m,c) w→k (.val (.slice (Zj p l c n) (m-l) (c-l)))→ZAB A N P ⟨dst,.slice t x lo hi mx,type,pos,after,guard⟩ env a h fr w0 w k:=by
         intro vlo vhi vmx l m c e1 e2 e3 hb hk
         refine ZAB.val R hP.good hd (he (by simp)) (v:=.slice (Zj p l c n) (m-l) (c-l)) (ev:=.val _) ?_ rfl hk
         simp only [execOp,Instr.sliceAt,R.eval_v hx,Sem.run_bind,Zc hu,Result.andThen_ok,Instr.slice,e1,e2,e3,hb,ZBn hn]
         rfl
    split at hk
    ·rename_i h1 h2 h3
     obtain ⟨l,m,hb,hk⟩:=ZBj (P:=P) (w:=w) (kl:=.i64) (kh:=.i64) (isS:=true) hk
     exact main _ _ _ l m cap ((hmap h1).1 rfl) ((hmap h2).1 rfl) ((hmap h3).1 rfl) hb hk
    ·rename_i j i h1 h2 h3
     obtain ⟨l,m,hb,hk⟩:=ZBj (P:=P) (w:=w) (kl:=j) (kh:=.i64) (isS:=true) hk
     exact main _ _ _ l m cap ((hmap h1).2 _ rfl) ((hmap h2).1 rfl) ((hmap h3).1 rfl) hb hk
    ·rename_i j i h1 h2 h3
     obtain ⟨l,m,hb,hk⟩:=ZBj (P:=P) (w:=w) (kl:=.i64) (kh:=j) (isS:=true) hk
     exact main _ _ _ l m cap ((hmap h1).1 rfl) ((hmap h2).2 _ rfl) ((hmap h3).1 rfl) hb hk
    ·rename_i j i j' i' h1 h2 h3
     obtain ⟨l,m,hb,hk⟩:=ZBj (P:=P) (w:=w) (kl:=j) (kh:=j') (isS:=true) hk
     exact main _ _ _ l m cap ((hmap h1).2 _ rfl) ((hmap h2).2 _ rfl) ((hmap h3).1 rfl) hb hk
    ·rename_i j i j' i' j'' i'' h1 h2 h3
     obtain ⟨l,m,c,hb,hk⟩:=ZJv (P:=P) (w:=w) (len:=len) (kl:=j) (kh:=j') (km:=j'') (isS:=true) hk
     exact main _ _ _ l m c ((hmap h1).2 _ rfl) ((hmap h2).2 _ rfl) ((hmap h3).2 _ rfl) hb hk
    ·rename_i j' i' j'' i'' h1 h2 h3
     obtain ⟨l,m,c,hb,hk⟩:=ZJv (P:=P) (w:=w) (len:=len) (kl:=.i64) (kh:=j') (km:=j'') (isS:=true) hk
     exact main _ _ _ l m c ((hmap h1).1 rfl) ((hmap h2).2 _ rfl) ((hmap h3).2 _ rfl) hb hk
    ·exact hk.elim
  ·rename_i s hu hx
   have main:∀ (vlo vhi:Option Value) (l m:Nat),lo.map a.eval=vlo→hi.map a.eval=vhi→mx=none→
         (Instr.sliceBounds false s.size s.size vlo vhi none).run P w=.ok (l,m,s.size) w→k (.val (.string (s.extract l m)))→ZAB A N P ⟨dst,.slice t x lo hi mx,type,pos,after,guard⟩ env a h fr w0 w k:=by
    intro vlo vhi l m e1 e2 e3 hb hk2
    clear hk
    subst e3
    refine ZAB.val R hP.good hd (he (by simp)) (v:=.string (s.extract l m)) (ev:=.val _) ?_ rfl hk2
    simp only [execOp,Instr.sliceAt,R.eval_v hx,Sem.run_bind,Zc hu,Result.andThen_ok,Instr.slice,e1,e2,Option.map_none,Option.isSome_none,Bool.false_eq_true,if_false,hb]
    rfl
   split at hk
   ·rename_i j i h1 h2
    obtain ⟨l,m,hb,hk⟩:=ZBj (P:=P) (w:=w) (kl:=j) (kh:=.i64) (isS:=false) hk
    exact main _ _ l m ((hmap h1).2 _ rfl) ((hmap h2).1 rfl) rfl hb hk
   ·rename_i j i h1 h2
    obtain ⟨l,m,hb,hk⟩:=ZBj (P:=P) (w:=w) (kl:=.i64) (kh:=j) (isS:=false) hk
    exact main _ _ l m ((hmap h1).1 rfl) ((hmap h2).2 _ rfl) rfl hb hk
   ·rename_i j i j' i' h1 h2
    obtain ⟨l,m,hb,hk⟩:=ZBj (P:=P) (w:=w) (kl:=j) (kh:=j') (isS:=false) hk
    exact main _ _ l m ((hmap h1).2 _ rfl) ((hmap h2).2 _ rfl) rfl hb hk
   ·exact hk.elim
  ·rename_i n e ad hu hx
   split at hk
   ·exact hk.elim
   ·rename_i z hz
    have main:∀ (vlo vhi:Option Value) (l m:Nat),lo.map a.eval=vlo→hi.map a.eval=vhi→mx=none→
          (Instr.sliceBounds false n n vlo vhi none).run P w=.ok (l,m,n) w→k (.val (.slice (Zj (some ad) l n z) (m-l) (n-l)))→ZAB A N P ⟨dst,.slice t x lo hi mx,type,pos,after,guard⟩ env a h fr w0 w k:=by
         intro vlo vhi l m e1 e2 e3 hb hk2
         clear hk
         subst e3
         refine ZAB.val R hP.good hd (he (by simp)) (v:=.slice (Zj (some ad) l n z) (m-l) (n-l)) (ev:=.val _) ?_ rfl hk2
         have hc:(if n=l then some ad else some (ad.add (l*z)))=Zj (some ad) l n z:=by unfold Zj; split<;>rfl
         simp only [execOp,Instr.sliceAt,R.eval_v hx,Sem.run_bind,Zc hu,Result.andThen_ok,Instr.sureAddr,Sem.run_pure,e1,e2,Option.map_none,hb,ZBn hz]
         rw [←hc]
         split<;>rfl
    split at hk
    ·rename_i h1 h2
     obtain ⟨l,m,hb,hk⟩:=ZBj (P:=P) (w:=w) (kl:=.i64) (kh:=.i64) (isS:=false) hk
     exact main _ _ l m ((hmap h1).1 rfl) ((hmap h2).1 rfl) rfl hb hk
    ·rename_i j i h1 h2
     obtain ⟨l,m,hb,hk⟩:=ZBj (P:=P) (w:=w) (kl:=j) (kh:=.i64) (isS:=false) hk
     exact main _ _ l m ((hmap h1).2 _ rfl) ((hmap h2).1 rfl) rfl hb hk
    ·rename_i j i h1 h2
     obtain ⟨l,m,hb,hk⟩:=ZBj (P:=P) (w:=w) (kl:=.i64) (kh:=j) (isS:=false) hk
     exact main _ _ l m ((hmap h1).1 rfl) ((hmap h2).2 _ rfl) rfl hb hk
    ·rename_i j i j' i' h1 h2
     obtain ⟨l,m,hb,hk⟩:=ZBj (P:=P) (w:=w) (kl:=j) (kh:=j') (isS:=false) hk
     exact main _ _ l m ((hmap h1).2 _ rfl) ((hmap h2).2 _ rfl) rfl hb hk
    ·exact hk.elim
  ·exact hk.elim
 case extract x i=>
  simp only [opP] at hk
  split at hk
  ·rename_i vs hx
   split at hk
   ·rename_i v hv
    exact ZAB.val R hP.good hd (he (by simp)) (v:=v) (ev:=.val v) (by simp [execOp,Instr.extract,R.eval_v hx,hv]) rfl hk
   ·exact hk.elim
  ·exact hk.elim
 case call c=>
  simp only [opP] at hk
  obtain ⟨callee,args,ats⟩:=c
  dsimp only at hk
  split at hk
  ·rename_i t v h2 h3
   have hv:=ZAW R h3
   have hargs:args.map a.eval=#[v]:=Array.ext' (by simpa using hv)
   split at hk
   ·rename_i s hu
    exact ZAB.val R hP.good hd (he (by simp)) (v:=.int .i64 (s.size:Int)) (ev:=.val _) (by simp [execOp,resolve,invoke,builtin,hargs,Builtin.len_,h2,Zc hu,goInt]) rfl hk
   ·rename_i n u hu
    exact ZAB.val R hP.good hd (he (by simp)) (v:=.int .i64 (n:Int)) (ev:=.val _) (by simp [execOp,resolve,invoke,builtin,hargs,Builtin.len_,h2,Zc hu,goInt]) rfl hk
   ·rename_i e b n c hu
    exact ZAB.val R hP.good hd (he (by simp)) (v:=.int .i64 (n:Int)) (ev:=.val _) (by simp [execOp,resolve,invoke,builtin,hargs,Builtin.len_,h2,Zc hu,goInt]) rfl hk
   ·exact hk.elim
  ·rename_i j x j' y h3
   have hv:=ZAW R h3
   have hargs:args.map a.eval=#[.int j x,.int j' y]:=Array.ext' (by simpa using hv)
   exact ZAB.val R hP.good hd (he (by simp)) (v:=.int j (ZJi x y)) (ev:=.val _) (by simp [execOp,resolve,invoke,builtin,hargs,Builtin.min_,Builtin.min2,ZJi]) rfl hk
  ·rename_i j x j' y h3
   have hv:=ZAW R h3
   have hargs:args.map a.eval=#[.int j x,.int j' y]:=Array.ext' (by simpa using hv)
   exact ZAB.val R hP.good hd (he (by simp)) (v:=.int j (ZTJ x y)) (ev:=.val _) (by simp [execOp,resolve,invoke,builtin,hargs,Builtin.max_,Builtin.max2,ZTJ]) rfl hk
  ·exact hk.elim
 all_goals (simp only [cls] at hc; cases hc)
end
section
variable {P:Program} {A:Ann} {N:Nat} {bx:Nat→Nat} {env:Env} {a:Act} {h fr:Hp} {w0 w:World}
theorem ZUx {h:Hp} {w:World} (hl:h.le w) {ad:Addr} {cs:List Value} (hr:h.rds ad cs):∀ j v,cs[j]?=some v→w.cell? (ad.add j)=some v:=
 fun j v hj=>Hp.cell?_le hl (hr j v hj)
theorem ZMl {c:Cdc} {t:TypeId} (hP:ZGb P A) (hf:ZAn P c t=true) {ad:Addr} {y:c.T} (hr:∀ j v,(c.enc y).cells.toList[j]?=some v→w.cell? (ad.add j)=some v):
 (loadVar t ad).run P w=.ok (c.enc y) w:=by
 simp only [ZAn,Bool.and_eq_true] at hf
 obtain ⟨⟨hmem,hag⟩,hnn⟩:=hf
 cases hn:ZAl P t with
 | none=>rw [hn] at hnn; cases hnn
 | some n=>
   rw [hn] at hnn
   have hnn:=ZFC.1 hnn
   have hag:c.agg=ZCE P t:=by simpa using hag
   have hform:=c.form hmem y
   have hu:=hP.formed _ _ hn
   cases hg:c.agg with
   | true=>
     rw [hg] at hform
     obtain ⟨xs,hxs,hlen,_⟩:=hform
     rw [hxs] at hr ⊢
     have:=ZDD (P:=P) (w:=w) hn hu (cs:=xs) (by omega) (by simpa [Value.cells] using hr) (by rw [←hag,hg]; simp)
     rw [this,←hag,hg]; rfl
   | false=>
     rw [hg] at hform
     obtain ⟨hone,hn1⟩:=hform
     rw [ZFE hone] at hr
     have:=ZDD (P:=P) (w:=w) hn hu (cs:=[c.enc y]) (by simp; omega) hr (by intro; omega)
     rw [this,←hag,hg]; rfl
theorem ZW9 (a:Addr) (xs:List Int) (len cap:Nat) (hlen:xs.length=len) (hr:∀ j v,(ZDj xs)[j]?=some v→w.cell? (a.add j)=some v):
 (Conv.bytesToString (.slice (some a) len cap)).run P w=.ok (.string (ZJQ xs)) w:=by
 have h1:=run_loadCells_list (P:=P) w a (ZDj xs) hr
 rw [show (ZDj xs).length=len by simp [ZDj,hlen]] at h1
 exact run_bytesToString w a len cap xs h1
theorem ZYX (hP:ZGb P A) (R:Rel A N bx env a h fr w0 w) {o:Oper} {k:EV→Prop} (hk:opR A P o (look A env) h k):
 ∃ v,k (.val v)∧(execOp a.eval o).run P w=.ok (.value v) w:=by
 obtain ⟨dst,op,type,pos,after,guard⟩:=o
 cases op<;>simp only [opR] at hk<;>try exact hk.elim
 case load t x=>
  split at hk
  ·rename_i c ad hc hx
   cases hf:ZAn P c t with
   | false=>rw [hf] at hk; exact hk.elim
   | true=>
     rw [hf] at hk
     obtain ⟨y,hy,hk⟩:=hk
     refine ⟨c.enc y,hk,?_⟩
     simp only [execOp,Instr.loadAt,R.eval_v hx,Instr.sureAddr,Sem.run_bind,Sem.run_pure,Result.andThen_ok,ZMl hP hf (ZUx R.hle hy)]
  ·exact hk.elim
 case convert s d x=>
  split at hk
  ·rename_i e p len cap hs hd hx
   split at hk
   ·rename_i hu
    have hgo:∀ st,(Conv.bytesToString (.slice p len cap)).run P w=.ok (.string st) w→(execOp a.eval ⟨dst,.convert s d x,type,pos,after,guard⟩).run P w=.ok (.value (.string st)) w:=by
         intro st hst
         simp only [execOp,convert,R.eval_v hx,Sem.run_bind,Zc hs,Zc hd,Result.andThen_ok]
         rw [Zc hu]
         simp [hst]
    cases p with
    | none=>exact ⟨_,hk,hgo _ (by simp [Conv.bytesToString])⟩
    | some ad=>
      obtain ⟨xs,hl,hr,hk⟩:=hk
      exact ⟨_,hk,hgo _ (ZW9 ad xs len cap hl (ZUx R.hle hr))⟩
   ·exact hk.elim
  ·exact hk.elim
 case call c=>
  obtain ⟨callee,args,ats⟩:=c
  dsimp only at hk
  split at hk
  ·rename_i t r h2 h1
   have hv:=ZAW R h1
   have hargs:args.map a.eval=#[.chan r]:=Array.ext' (by simpa using hv)
   cases hct:ZP0 P t with
   | false=>rw [hct] at hk; exact hk.elim
   | true=>
     rw [hct] at hk
     simp only [cond_true] at hk
     unfold ZP0 at hct
     cases hu:P.underlying t with
     | none=>rw [hu] at hct; cases hct
     | some d=>
       rw [hu] at hct
       cases d<;>first|cases hct|skip
       cases r with
       | none=>exact ⟨_,hk,by simp [execOp,resolve,invoke,builtin,hargs,Builtin.len_,h2,Zc hu,goInt]⟩
       | some r=>
         obtain ⟨cap,buf,cl,s,r',hh,hk⟩:=hk
         have hw:=R.hle _ _ hh
         refine ⟨_,hk,?_⟩
         have hg:(getObj r).run P w=.ok (.chan cap buf cl s r' false) w:=by simp [getObj,Sem.run,hw]
         simp [execOp,resolve,invoke,builtin,hargs,Builtin.len_,h2,Zc hu,goInt,hg]
  ·exact hk.elim
theorem ZPC {zs:List Value} {sz:Nat} (hz:zs.length=sz):∀ (n i:Nat),i<n*sz→(Z1 n zs)[i]?=zs[i % sz]?:=by
 intro n
 induction n with
 | zero=>intro i hi; omega
 | succ n ih=>
   intro i hi
   show (zs++Z1 n zs)[i]?=_
   rw [Nat.add_mul,Nat.one_mul] at hi
   by_cases h:i<sz
   ·rw [List.getElem?_append_left (by omega),Nat.mod_eq_of_lt h]
   ·rw [List.getElem?_append_right (by omega),hz,ih (i-sz) (by omega),←Nat.mod_eq_sub_mod (by omega)]
theorem ZOw {zs:List Value} {sz:Nat} (hz:zs.length=sz) (n:Nat):(Z1 n zs).length=n*sz:=by
 induction n with
 | zero=>simp [Z1]
 | succ n ih=>
   show (zs++Z1 n zs).length=_
   rw [List.length_append,ih,hz,Nat.add_mul,Nat.one_mul,Nat.add_comm]
theorem ZG0 {z:Array Value} {sz:Nat} (hz:z.size=sz) (n:Nat):madeCells z (n*sz)=(Z1 n z.toList).toArray:=by
 apply Array.ext'
 apply List.ext_getElem?
 intro i
 by_cases hi:i<n*sz
 ·have h0:0<sz:=Nat.pos_of_ne_zero (by rintro rfl; omega)
  rw [show (Z1 n z.toList).toArray.toList=Z1 n z.toList from rfl,ZPC (sz:=sz) (by simpa using hz) n i hi]
  have hm:i % sz<z.size:=by rw [hz]; exact Nat.mod_lt _ h0
  simp only [madeCells,Array.toList_map,Array.toList_range,List.getElem?_map,hz]
  rw [List.getElem?_range hi]
  simp [hm]
 ·rw [List.getElem?_eq_none (by simp [madeCells]; omega),List.getElem?_eq_none (by rw [show (Z1 n z.toList).toArray.toList=Z1 n z.toList from rfl,ZOw (sz:=sz) (by simpa using hz)]; omega)]
theorem ZXe (hP:ZGb P A) (R:Rel A N bx env a h fr w0 w) {o:Oper} {k:Obj→(Nat→Value)→Prop} (hk:opA P o (look A env) k):
 ∃ ob f,k ob f∧(execOp a.eval o).run P w=.ok (.value (f w.heap.size)) (w.alloc ob):=by
 obtain ⟨dst,op,type,pos,after,guard⟩:=o
 cases op<;>simp only [opA] at hk<;>try exact hk.elim
 case alloc elem=>
  split at hk
  ·rename_i z hz
   exact ⟨_,_,hk,by simp [execOp,Instr.alloc,ZDB hz,newVar,newRow]⟩
  ·exact hk.elim
 case box elem x=>
  split at hk
  ·rename_i z hz
   exact ⟨_,_,hk,by simp [execOp,Instr.box,R.eval_v hz,newVar,newRow]⟩
  ·exact hk.elim
 case buildSlice t len ps=>
  split at hk
  ·rename_i e l hu hl
   have hl':=ZF6 R hl
   split at hk
   ·rename_i n z hn hz
    cases hb:Nat.ble (len*n) 16777216 with
    | false=>rw [hb] at hk; exact hk.elim
    | true=>
      rw [hb] at hk
      simp only [cond_true] at hk
      have hb:=Nat.le_of_ble_eq_true hb
      split at hk
      ·rename_i cs hf
       refine ⟨_,_,hk,?_⟩
       have hps:ps.map (fun x=>(x.1,a.eval x.2))=l.toArray:=Array.ext' (by simp [←hl'])
       simp only [execOp,Instr.buildSlice,Sem.run_bind,Zc hu,Result.andThen_ok,ZBn hn]
       rw [if_neg (by omega)]
       by_cases h0:len*n=0
       ·simp only [h0,if_true,Sem.run_pure,Result.andThen_ok,Sem.run_bind] at hf ⊢
        simp only [hps]
        have:(Array.map (fun x=>(#[]:Array Value)[x % (#[]:Array Value).size]!) (Array.range 0))=Array.map (fun x=>z.cells[x % z.cells.size]!) (Array.range 0):=by simp
        rw [this,hf]
        simp [newRow]
       ·simp only [h0,if_false,Sem.run_bind,ZDB hz,Sem.run_pure,Result.andThen_ok]
        simp only [hps]
        rw [hf]
        simp [newRow]
      ·exact hk.elim
   ·exact hk.elim
  ·exact hk.elim
 case makeSlice t l c=>
  split at hk
  ·rename_i e kn n km m hu hl hc
   split at hk
   ·rename_i z hz
    cases hq:ZDz P e with
    | false=>rw [hq] at hk; exact hk.elim
    | true=>
      rw [hq] at hk
      obtain ⟨h0,h1,h2,h3,hk⟩:=hk
      refine ⟨_,_,hk,?_⟩
      unfold ZDz at hq
      split at hq
      ·rename_i i hi
       rw [show i.zero=some z from by simpa [ZDA,hi] using hz] at hq
       have hsz:z.cells.size=i.size:=Nat.eq_of_beq_eq_true hq
       have hb:ZAu P e=i.bytes:=by simp [ZAu,hi]
       rw [hb] at h3
       have hr:=run_make (P:=P) w t e i z hu hi (by simpa [ZDA,hi] using hz) kn km n m h0 h1 (by omega) (by omega)
       rw [ZG0 hsz] at hr
       simp [execOp,R.eval_v hl,R.eval_v hc,hr]
      ·cases hq
   ·exact hk.elim
  ·exact hk.elim
 case makeChan t n=>
  split at hk
  ·rename_i dir e kn n hu hn
   split at hk
   ·rename_i sz hs
    obtain ⟨h0,h1,h2,hk⟩:=hk
    refine ⟨_,_,hk,?_⟩
    obtain ⟨i,hi,_,hb⟩:=ZLy hs
    rw [←hb] at h2
    have n1:¬(n<0∨n>IntKind.i64.max∨(i.bytes:Int)*n>2 ^ 48-112):=by
         have:IntKind.i64.max=9223372036854775807:=by decide
         omega
    simp only [execOp,Instr.makeChan,R.eval_v hn,asInt,asIntOf,Sem.run_bind,Sem.run_pure,Result.andThen_ok,Zc hu,ZIR hi,if_neg n1,run_newObj]
    rfl
   ·exact hk.elim
  ·exact hk.elim
 case makeMap t r=>
  split at hk
  ·refine ⟨_,_,hk,?_⟩
   simp only [execOp,Instr.makeMap,Option.map_none,Sem.run_bind,Sem.run_pure,Result.andThen_ok,run_newObj]
   rfl
  ·exact hk.elim
end
section
variable {P:Program} {A:Ann} {N:Nat} {bx:Nat→Nat} {env:Env} {a:Act} {h fr:Hp} {w0 w:World}
structure ZAS (h fr h':Hp) (w w':World):Prop where
 hle:h'.le w'
 frle:fr.le w'
 dj:h'.dj fr
 same:ZFx w w'
 keep:∀ b,b<w.heap.size→h b=none→fr b=none→w'.heap[b]?=w.heap[b]?∧h' b=none
def ZZu (P:Program) (o:Oper) (a:Act) (w:World) (h fr:Hp) (k:EV→Hp→Prop):Prop:=
 (∃ ev v h' w',k ev h'∧(ev=.val v∨ev=.unk)∧(execOp a.eval o).run P w=.ok (.value v) w'∧ZAS h fr h' w w')∨
 (∃ h' w',k .unk h'∧(execOp a.eval o).run P w=.ok .skip w'∧ZAS h fr h' w w')∨
 (∃ f args,(execOp a.eval o).run P w=.ok (.enter f args) w∧ZG4 P f args h fun v h'=>k (.val v) h')∨
 (∃ v h' w' cs,k (.val v) h'∧(execOp a.eval o).run P w=.ok (.comm cs false .select) w∧ZAS h fr h' w w'∧
   ∀ (f:Frame) (l:List Frame) (es:Array Event),stepG P true (Conc.G f l) w=.comm (Conc.G f l) cs false .select w es→step P (Conc.solo (Conc.G f l) w)=.next (Conc.solo (Conc.G (f.finish v) l) w'))
theorem ZAS.wrs (hle:h.le w) (frle:fr.le w) (dj:h.dj fr) (ad:Addr) (vs:List Value) (hb:vs=[]∨h ad.block≠none):
 ZAS h fr (h.wrs ad 0 vs) w (wrW w ad 0 vs):=by
 refine ⟨ZX4 ad vs 0 h w hle,?_,?_,ZMh ad vs 0 w,?_⟩
 ·rcases hb with rfl|hb
  ·exact frle
  ·intro k o hk
   have:k≠ad.block:=by
    rintro rfl
    rcases dj ad.block with e|e
    ·exact hb e
    ·rw [e] at hk; cases hk
   rw [ZMa ad vs 0 w k this]; exact frle k o hk
 ·intro b
  rw [ZGn]; exact dj b
 ·intro b _ h1 _
  refine ⟨?_,by rw [ZGn]; exact h1⟩
  rcases hb with rfl|hb
  ·rfl
  ·exact ZMa ad vs 0 w b (by rintro rfl; exact hb h1)
theorem ZAS.alloc (hle:h.le w) (frle:fr.le w) (dj:h.dj fr) (o:Obj):ZAS h fr (h.upd w.heap.size o) w (w.alloc o):=by
 refine ⟨Hp.upd_le hle o,Hp.le_alloc frle o,Hp.upd_dj dj (Hp.le_lt frle (Nat.le_refl _)) o,⟨rfl,rfl,rfl⟩,?_⟩
 intro b hb h1 _
 refine ⟨?_,by simp only [Hp.upd,if_neg (show b≠w.heap.size by omega)]; exact h1⟩
 show (w.heap.push o)[b]?=_
 rw [Array.getElem?_push,if_neg (by omega)]
theorem ZAS.refl (hle:h.le w) (frle:fr.le w) (dj:h.dj fr):ZAS h fr h w w:=⟨hle,frle,dj,ZFx.refl w,fun _ _ h1 _=>⟨rfl,h1⟩⟩
theorem ZAS.drew {h':Hp} {w':World} (s:ZAS h fr h' w.drew w'):ZAS h fr h' w w':=
 ⟨s.hle,s.frle,s.dj,⟨s.same.os,s.same.tape,s.same.output⟩,s.keep⟩
theorem ZSJ (hle:h.le w) {ad:Addr} {n:Nat} (hm:h.may ad n):∀ j,j<n→(∃ v,w.cell? (ad.add (0+j))=some v)∧w.frozen? (ad.add (0+j))=false:=by
 intro j hj
 obtain ⟨⟨v,hv⟩,hf⟩:=hm j hj
 rw [Nat.zero_add]
 exact ⟨⟨v,Hp.cell?_le hle hv⟩,by rw [Hp.frozen?_le hle hv]; exact hf⟩
theorem ZDC {ad:Addr} {n:Nat} (hm:h.may ad n) (hn:0<n):h ad.block≠none:=by
 obtain ⟨⟨v,hv⟩,_⟩:=hm 0 hn
 have:=Hp.cell_block hv
 rwa [ZK7] at this
theorem ZAV {c:Cdc} (hm:c.mem=true) (x:c.T):(c.enc x).cells.size=c.n∧∀ v∈(c.enc x).cells.toList,ZF7 v=true:=by
 have hf:=c.form hm x
 cases hg:c.agg with
 | true=>
   rw [hg] at hf
   obtain ⟨cs,e,hl,ho⟩:=hf
   rw [e]
   simp only [Value.cells]
   exact ⟨by simpa using hl,by simpa using ho⟩
 | false=>
   rw [hg] at hf
   obtain ⟨ho,hn⟩:=hf
   rw [ZFE ho]
   exact ⟨by simp [hn],by simpa using ho⟩
theorem Ze {c:Cdc} (hm:c.mem=true):∀ xs:List c.T,(ZG c xs).length=xs.length*c.n:=by
 intro xs
 induction xs with
 | nil=>simp [ZG]
 | cons x l ih=>
   simp only [ZG,List.flatMap_cons,List.length_append,List.length_cons] at ih ⊢
   rw [ih,show (c.enc x).cells.toList.length=c.n by simpa using (ZAV hm x).1]
   rw [Nat.add_mul]; omega
theorem ZEL {c:Cdc} (hm:c.mem=true) (xs:List c.T):∀ v∈ZG c xs,ZF7 v=true:=by
 intro v hv
 simp only [ZG,List.mem_flatMap] at hv
 obtain ⟨x,_,hx⟩:=hv
 exact (ZAV hm x).2 v hx
theorem ZRT (need:Nat):∀ (r c:Nat),c≤need→Builtin.growBy need r c≤2*need+192:=by
 intro r
 induction r with
 | zero=>intro c hc; simp [Builtin.growBy]; omega
 | succ r ih=>
   intro c hc
   unfold Builtin.growBy
   split
   ·omega
   ·by_cases h:c+(c+768) / 4≤need
    ·exact ih _ h
    ·have:Builtin.growBy need r (c+(c+768) / 4)=c+(c+768) / 4:=by
      cases r with
      | zero=>rfl
      | succ r=>unfold Builtin.growBy; rw [if_pos (by omega)]
     rw [this]; omega
theorem ZDw (need cap:Nat) (h:cap<need):Builtin.nextslicecap need cap≤2*need+192:=by
 unfold Builtin.nextslicecap
 split
 ·omega
 ·split
  ·omega
  ·exact ZRT need 4 cap (by omega)
theorem ZBx {c:Cdc} (hm:c.mem=true) {b:Option Addr} {len:Nat} {K:List c.T→Prop} (he:ZB6 c b len h K):
 ∃ xs:List c.T,xs.length=len∧K xs∧∀ (P:Program) (w:World) (cap:Nat),h.le w→(Builtin.firstCells c.n len (.slice b len cap)).run P w=.ok (ZG c xs).toArray w:=by
 cases b with
 | none=>
   obtain ⟨rfl,hk⟩:=he
   exact ⟨[],rfl,hk,fun _ _ _ _=>rfl⟩
 | some ad=>
   obtain ⟨xs,hl,hr,hk⟩:=he
   refine ⟨xs,hl,hk,fun P w cap hle=>?_⟩
   have:=run_loadCells_list (P:=P) w ad (ZG c xs) (ZUx hle hr)
   rw [Ze hm,hl] at this
   exact this
theorem ZCy (z:Array Value) (n:Nat):(Builtin.zeroCells z n).size=n*z.size:=by simp [Builtin.zeroCells]
theorem ZN8 {c:Cdc} {e t u u' ty:TypeId} {bytes:Nat} {ats:Array TypeId} (ht:ats[0]?=some t) (hu1:ats[1]?=some u) (ht':P.underlying t=some (.slice e)) (hu':P.underlying u=some (.slice u'))
 (hf:ZAn P c e=true) (hb:bytes=ZAu P e) (hb1:1≤bytes) (hb2:bytes≤1048576) (hz:ZDz P e=true) {p q:Option Addr} {len cap n cap':Nat} {K:Option Addr→Nat→Nat→Hp→Prop}
 (hle:h.le w) (frle:fr.le w) (dj:h.dj fr) (hk:ZY c e bytes p len cap q n h K):
 ∃ p' l' c' h' w',K p' l' c' h'∧(Builtin.append_ ats ty #[.slice p len cap,.slice q n cap']).run P w=.ok (.slice p' l' c') w'∧ZAS h fr h' w w':=by
 have hf':=hf
 simp only [ZAn,Bool.and_eq_true] at hf'
 obtain ⟨⟨hm,_⟩,hn⟩:=hf'
 cases hs:ZAl P e with
 | none=>rw [hs] at hn; cases hn
 | some sz=>
   rw [hs] at hn
   have hn:=ZFC.1 hn
   subst hn
   obtain ⟨i,hi,hi1,hi2⟩:=ZLy hs
   obtain ⟨z,hz,hzs⟩:∃ z,ZDA P e=some z∧∀ n,ZAl P e=some n→z.cells.size=n:=by
    unfold ZDz at hz
    unfold ZDA ZAl
    split at hz
    ·rename_i i' hi'
     split at hz
     ·rename_i z hz'
      exact ⟨z,hz',fun n h=>by cases h; exact Nat.eq_of_beq_eq_true hz⟩
     ·cases hz
    ·cases hz
   unfold ZY at hk
   obtain ⟨ys,hyl,⟨hk1,hk2⟩,hry0⟩:=ZBx hm hk
   have hry:=hry0 P w cap' hle
   have hone:=ZEL hm ys
   have hlen:=Ze hm ys
   have g0:(#[.slice p len cap,.slice q n cap']:Array Value)[0]?=some (.slice p len cap):=rfl
   have g1:(#[.slice p len cap,.slice q n cap']:Array Value)[1]?=some (.slice q n cap'):=rfl
   unfold Builtin.append_
   simp only [ht,hu1,g0,g1,Sem.run_bind,Zc ht',Zc hu',Result.andThen_ok,ZBn hs,Sem.run_pure,Builtin.lenOf,Bool.false_eq_true,if_false,Bool.not_false,if_true]
   by_cases hc:len+n≤cap
   ·have hk1:=hk1 hc
    rw [if_pos hc]
    cases p with
    | none=>
      refine ⟨_,_,_,h,w,hk1,?_,ZAS.refl hle frle dj⟩
      simp [hry]
    | some ad=>
      obtain ⟨hmay,hk1⟩:=hk1
      have hsc:=ZBZ (P:=P) (ad.add (len*c.n)) (ZG c ys) 0 w (by rw [hlen,hyl]; exact ZSJ hle hmay) hone
      refine ⟨_,_,_,_,_,hk1,?_,ZAS.wrs hle frle dj (ad.add (len*c.n)) (ZG c ys) ?_⟩
      ·simp [hry,hsc]
      ·by_cases h0:n*c.n=0
       ·left
        apply List.eq_nil_of_length_eq_zero
        rw [hlen,hyl]; exact h0
       ·right; exact ZDC hmay (by omega)
   ·rw [if_neg hc]
    obtain ⟨hroom,hold⟩:=hk2 (by omega)
    obtain ⟨xs,hxl,hK,hrx⟩:=ZBx hm hold
    have hb0:i.bytes=bytes:=by rw [hi2,hb]
    have hne:len+n≤ZAI:=Nat.le_trans (Nat.le_mul_of_pos_right _ (by omega)) hroom
    have hcap:Builtin.nextslicecap (len+n) cap*i.bytes≤2 ^ 48:=by
     have h1:=ZDw (len+n) cap (by omega)
     rw [hb0]
     calc Builtin.nextslicecap (len+n) cap*bytes≤(2*(len+n)+192)*bytes:=Nat.mul_le_mul_right _ h1
         _=2*((len+n)*bytes)+192*bytes:=by rw [Nat.add_mul,Nat.mul_assoc]
         _≤2 ^ 48:=by unfold ZAI at hroom; omega
    have hg1:¬(((len+n:Nat):Int)>IntKind.i64.max∧i.bytes=0):=by rintro ⟨_,h0⟩; omega
    -- the tape's answer
    obtain ⟨nc,hnc,hch⟩:∃ nc,len+n≤nc∧(choose (.appendCap (len+n) cap e)).run P w=.ok nc w.drew:=by
     refine ⟨_,?_,by rw [run_choose]; simp only [Question.forced,Bool.false_eq_true,if_false]; rfl⟩
     simp only [Question.cut]; omega
    have hpad:(Builtin.zeroCells z.cells (nc-(len+n))).toList.length=(nc-(len+n))*c.n:=by
     simp [ZCy,hzs c.n hs]
    have hK:=hK nc (Builtin.zeroCells z.cells (nc-(len+n))).toList hnc hpad w.heap.size (Hp.le_lt hle (Nat.le_refl _))
    have hrx':=hrx P w.drew cap hle
    have hry':=hry0 P w.drew cap' hle
    refine ⟨_,_,_,_,_,hK,?_,ZAS.drew (ZAS.alloc (w:=w.drew) hle frle dj _)⟩
    simp only [ZIR hi,Sem.run_bind,Result.andThen_ok,Sem.run_ite,false_or]
    rw [if_neg hg1]
    simp only [Sem.run_pure]
    rw [if_neg (by omega)]
    simp only [Sem.run_pure,Result.andThen_ok,hch,run_askRoom,hrx',hry',ZDB hz,newRow,Sem.run_bind,run_newObj]
    congr 3
    simp
theorem ZTP {c:Cdc} {e t ty:TypeId} {ats:Array TypeId} (ht:ats[0]?=some t) (ht':P.underlying t=some (.slice e))
 (hf:ZAn P c e=true) {p q:Option Addr} {len cap n cap':Nat} {K:Int→Hp→Prop}
 (hle:h.le w) (frle:fr.le w) (dj:h.dj fr) (hk:ZA6 c p len q n h K):
 ∃ m h' w',K m h'∧(Builtin.copy_ ats ty #[.slice p len cap,.slice q n cap']).run P w=.ok (.int .i64 m) w'∧ZAS h fr h' w w':=by
 simp only [ZAn,Bool.and_eq_true] at hf
 obtain ⟨⟨hm,_⟩,hn⟩:=hf
 cases hs:ZAl P e with
 | none=>rw [hs] at hn; cases hn
 | some sz=>
   rw [hs] at hn
   have hn:=ZFC.1 hn
   subst hn
   unfold ZA6 at hk
   obtain ⟨ys,hyl,hk,hry0⟩:=ZBx hm hk
   have hry:(Builtin.firstCells c.n (min n len) (.slice q n cap')).run P w=.ok (ZG c ys).toArray w:=by
    have:=hry0 P w cap' hle
    cases q with
    | none=>exact this
    | some ad=>exact this
   have hone:=ZEL hm ys
   have hlen:=Ze hm ys
   have g0:(#[.slice p len cap,.slice q n cap']:Array Value)[0]?=some (.slice p len cap):=rfl
   have g1:(#[.slice p len cap,.slice q n cap']:Array Value)[1]?=some (.slice q n cap'):=rfl
   unfold Builtin.copy_
   simp only [ht,g0,g1,Sem.run_bind,Zc ht',Result.andThen_ok,ZBn hs,Sem.run_pure,Builtin.lenOf]
   rw [show Nat.min n len=min n len from rfl,hry]
   simp only [Result.andThen_ok]
   cases p with
   | none=>exact ⟨_,h,w,hk,by simp [goInt],ZAS.refl hle frle dj⟩
   | some ad=>
     obtain ⟨hmay,hk⟩:=hk
     have hsc:=ZBZ (P:=P) ad (ZG c ys) 0 w (by rw [hlen,hyl]; exact ZSJ hle hmay) hone
     refine ⟨_,_,_,hk,by simp [hsc,goInt],ZAS.wrs hle frle dj ad (ZG c ys) ?_⟩
     by_cases h0:min n len*c.n=0
     ·left
      apply List.eq_nil_of_length_eq_zero
      rw [hlen,hyl]; exact h0
     ·right; exact ZDC hmay (by omega)
theorem ZDi {c:Cdc} {z:Value} {x:c.T} (hm:c.mem=true) (hz:z=c.enc x) (n:Nat):(Builtin.zeroCells z.cells n).toList=ZG c (List.replicate n x):=by
 subst hz
 have hsz:=(ZAV hm x).1
 apply List.ext_getElem?
 intro i
 have hl:=Ze hm (List.replicate n x)
 simp only [List.length_replicate] at hl
 by_cases hi:i<n*c.n
 ·have hcn:0<c.n:=Nat.pos_of_ne_zero (by rintro h0; rw [h0] at hi; omega)
  have key:∀ n i,i<n*c.n→(ZG c (List.replicate n x))[i]?=(c.enc x).cells[i % c.n]?:=by
   intro n
   induction n with
   | zero=>intro i hi; omega
   | succ n ih=>
     intro i hi
     rw [List.replicate_succ]
     simp only [ZG,List.flatMap_cons] at ih ⊢
     by_cases h1:i<c.n
     ·rw [List.getElem?_append_left (by simpa [hsz] using h1),Nat.mod_eq_of_lt h1]; simp
     ·rw [List.getElem?_append_right (by simp [hsz]; omega)]
      simp only [Array.length_toList,hsz]
      have hi':i-c.n<n*c.n:=by rw [Nat.add_mul] at hi; omega
      rw [ih (i-c.n) hi',←Nat.mod_eq_sub_mod (by omega)]
  rw [key n i hi]
  have h2:i % c.n<(c.enc x).cells.size:=by rw [hsz]; exact Nat.mod_lt _ hcn
  simp [Builtin.zeroCells,hsz,hi]
  rw [getElem!_pos (c.enc x).cells _ h2,getElem?_pos (c.enc x).cells _ h2]
 ·rw [List.getElem?_eq_none (by simp [ZCy,hsz]; omega),List.getElem?_eq_none (by omega)]
theorem ZS1 {c:Cdc} {e t u ty:TypeId} {k:IntKind} {bytes:Nat} {ats:Array TypeId} (ht:ats[0]?=some t) (hu1:ats[1]?=some u) (ht':P.underlying t=some (.slice e)) (hu':P.underlying u=some (.int k))
 (hf:ZAn P c e=true) (hb:bytes=ZAu P e) (hb1:1≤bytes) (hb2:bytes≤1048576) {zv:Value} {z:c.T} (hzv:ZDA P e=some zv) (hzz:zv=c.enc z) {p:Option Addr} {len cap:Nat} {j:IntKind} {n:Int} {K:Option Addr→Nat→Nat→Hp→Prop}
 (hle:h.le w) (frle:fr.le w) (dj:h.dj fr) (hk:ZGw c z e bytes p len cap n h K):
 ∃ p' l' c' h' w',K p' l' c' h'∧(Builtin.append_ ats ty #[.slice p len cap,.int j n]).run P w=.ok (.slice p' l' c') w'∧ZAS h fr h' w w':=by
 have hf':=hf
 simp only [ZAn,Bool.and_eq_true] at hf'
 obtain ⟨⟨hm,_⟩,hn⟩:=hf'
 cases hs:ZAl P e with
 | none=>rw [hs] at hn; cases hn
 | some sz=>
   rw [hs] at hn
   have hn:=ZFC.1 hn
   subst hn
   obtain ⟨i,hi,hi1,hi2⟩:=ZLy hs
   obtain ⟨h0,hnb,hk1,hk2⟩:=hk
   have hb0:i.bytes=bytes:=by rw [hi2,hb]
   have hnr:n.toNat≤ZAI:=Nat.le_trans (Nat.le_mul_of_pos_right _ (by omega)) hnb
   have hnl:n≤1099511627776:=by unfold ZAI at hnr; omega
   have hwr:IntKind.i64.wrap n=n:=by rw [IntKind.wrap_i64]; omega
   have hnb':¬(n*(i.bytes:Int)>2 ^ 48):=by
    have:(n.toNat:Int)*(bytes:Int)≤(ZAI:Int):=by exact_mod_cast hnb
    rw [show (n.toNat:Int)=n by omega] at this
    rw [hb0]
    unfold ZAI at this
    omega
   have g0:(#[.slice p len cap,.int j n]:Array Value)[0]?=some (.slice p len cap):=rfl
   have g1:(#[.slice p len cap,.int j n]:Array Value)[1]?=some (.int j n):=rfl
   have hzc:∀ m,(Builtin.zeroCells zv.cells m).toList=ZG c (List.replicate m z):=fun m=>ZDi hm hzz m
   have hzs:zv.cells.size=c.n:=by rw [hzz]; exact (ZAV hm z).1
   have hasint:asInt (.int j n)=pure n:=rfl
   -- what is appended
   have happ:∀ w:World,((if n.toNat*c.n=0 then pure #[] else do pure (Builtin.zeroCells (←zeroValue e).cells n.toNat):Sem (Array Value))).run P w=.ok (ZG c (List.replicate n.toNat z)).toArray w:=by
    intro w
    by_cases h1:n.toNat*c.n=0
    ·rw [if_pos h1]
     have:ZG c (List.replicate n.toNat z)=[]:=by
         apply List.eq_nil_of_length_eq_zero
         rw [Ze hm]; simpa using h1
     rw [this]; rfl
    ·rw [if_neg h1]
     simp only [Sem.run_bind,ZDB hzv,Result.andThen_ok,Sem.run_pure]
     rw [←hzc]
   have hone:=ZEL hm (List.replicate n.toNat z)
   have hlen:=Ze hm (List.replicate n.toNat z)
   rw [List.length_replicate] at hlen
   unfold Builtin.append_
   simp only [ht,hu1,g0,g1,Sem.run_bind,Zc ht',Zc hu',Result.andThen_ok,ZBn hs,Sem.run_pure,hasint,hwr,if_true,ZIR hi,if_neg (show ¬n<0 by omega),if_neg hnb',Bool.not_true,Bool.false_eq_true,if_false]
   by_cases hc:len+n.toNat≤cap
   ·have hk1:=hk1 hc
    rw [if_pos hc]
    cases p with
    | none=>
      refine ⟨_,_,_,h,w,hk1,?_,ZAS.refl hle frle dj⟩
      simp only [Sem.run_bind,happ,Result.andThen_ok,Sem.run_pure]
    | some ad=>
      obtain ⟨hmay,hk1⟩:=hk1
      have hsc:=ZBZ (P:=P) (ad.add (len*c.n)) (ZG c (List.replicate n.toNat z)) 0 w (by rw [hlen]; exact ZSJ hle hmay) hone
      refine ⟨_,_,_,_,_,hk1,?_,ZAS.wrs hle frle dj (ad.add (len*c.n)) (ZG c (List.replicate n.toNat z)) ?_⟩
      ·simp only [Sem.run_bind,happ,Result.andThen_ok,Sem.run_pure,hsc]
      ·by_cases h0:n.toNat*c.n=0
       ·left
        apply List.eq_nil_of_length_eq_zero
        rw [hlen]; exact h0
       ·right; exact ZDC hmay (by omega)
   ·rw [if_neg hc]
    obtain ⟨hroom,hold⟩:=hk2 (by omega)
    obtain ⟨xs,hxl,hK,hrx⟩:=ZBx hm hold
    have hne:len+n.toNat≤ZAI:=Nat.le_trans (Nat.le_mul_of_pos_right _ (by omega)) hroom
    have hcap:Builtin.nextslicecap (len+n.toNat) cap*i.bytes≤2 ^ 48:=by
     have h1:=ZDw (len+n.toNat) cap (by omega)
     rw [hb0]
     calc Builtin.nextslicecap (len+n.toNat) cap*bytes≤(2*(len+n.toNat)+192)*bytes:=Nat.mul_le_mul_right _ h1
         _=2*((len+n.toNat)*bytes)+192*bytes:=by rw [Nat.add_mul,Nat.mul_assoc]
         _≤2 ^ 48:=by unfold ZAI at hroom; omega
    have hg1:¬(((len+n.toNat:Nat):Int)>IntKind.i64.max∧(True∨i.bytes=0)):=by
     rintro ⟨hgt,_⟩
     unfold ZAI at hne
     have:IntKind.i64.max=9223372036854775807:=by decide
     rw [this] at hgt
     omega
    obtain ⟨nc,hnc,hch⟩:∃ nc,len+n.toNat≤nc∧(choose (.appendCap (len+n.toNat) cap e)).run P w=.ok nc w.drew:=by
     refine ⟨_,?_,by rw [run_choose]; simp only [Question.forced,Bool.false_eq_true,if_false]; rfl⟩
     simp only [Question.cut]; omega
    have hpad:(ZG c (List.replicate n.toNat z)++(Builtin.zeroCells zv.cells (nc-(len+n.toNat))).toList).length=(nc-len)*c.n:=by
     rw [List.length_append,hlen]
     simp only [Array.length_toList,ZCy,hzs]
     rw [←Nat.add_mul]
     congr 1; omega
    have hK:=hK nc _ hnc hpad w.heap.size (Hp.le_lt hle (Nat.le_refl _))
    have hrx':=hrx P w.drew cap hle
    refine ⟨_,_,_,_,_,hK,?_,ZAS.drew (ZAS.alloc (w:=w.drew) hle frle dj _)⟩
    simp only [ZIR hi,Sem.run_bind,Result.andThen_ok,Sem.run_ite]
    rw [if_neg (by simpa using hg1)]
    simp only [Sem.run_pure]
    rw [if_neg (by omega)]
    simp only [Sem.run_pure,Result.andThen_ok,hch,run_askRoom,hrx',ZDB hzv,newRow,Sem.run_bind,run_newObj]
    have hza:Builtin.zeroCells zv.cells n.toNat=(ZG c (List.replicate n.toNat z)).toArray:=by rw [←hzc]
    by_cases h1:n.toNat*c.n=0
    ·have hnil:ZG c (List.replicate n.toNat z)=[]:=by
         apply List.eq_nil_of_length_eq_zero
         rw [hlen]; exact h1
     simp only [hnil,if_pos h1,Result.andThen_ok]
     congr 3
     simp
    ·simp only [if_neg h1,Result.andThen_ok,hza]
     congr 3
     simp
theorem ZRN {c:Cdc} {e t ty:TypeId} {ats:Array TypeId} (ht:ats[0]?=some t) (ht':P.underlying t=some (.slice e))
 (hf:ZAn P c e=true) {z:Value} {x:c.T} (hz:ZDA P e=some z) (hx:z=c.enc x) {p:Option Addr} {n cap:Nat} {K:Hp→Prop}
 (hle:h.le w) (frle:fr.le w) (dj:h.dj fr) (hk:ZDx c x p n h K):
 ∃ h' w',K h'∧(Builtin.clear_ ats ty #[.slice p n cap]).run P w=.ok (.tuple #[]) w'∧ZAS h fr h' w w':=by
 simp only [ZAn,Bool.and_eq_true] at hf
 obtain ⟨⟨hm,_⟩,hn⟩:=hf
 have g0:(#[.slice p n cap]:Array Value)[0]?=some (.slice p n cap):=rfl
 unfold ZDx at hk
 unfold Builtin.clear_
 simp only [ht,g0,Sem.run_bind,Zc ht',Result.andThen_ok]
 cases p with
 | none=>exact ⟨h,w,hk,by simp,ZAS.refl hle frle dj⟩
 | some ad=>
   obtain ⟨hmay,hk⟩:=hk
   have hlen:=Ze hm (List.replicate n x)
   simp only [List.length_replicate] at hlen
   have hsc:=ZBZ (P:=P) ad (ZG c (List.replicate n x)) 0 w (by rw [hlen]; exact ZSJ hle hmay) (ZEL hm _)
   cases n with
   | zero=>exact ⟨_,_,hk,by simp [ZG,wrW],ZAS.wrs hle frle dj ad _ (by left; simp [ZG])⟩
   | succ n=>
     refine ⟨_,_,hk,?_,ZAS.wrs hle frle dj ad (ZG c (List.replicate (n+1) x)) ?_⟩
     ·simp [ZDB hz,ZDi hm hx,hsc]
     ·by_cases h0:(n+1)*c.n=0
      ·left
       apply List.eq_nil_of_length_eq_zero
       rw [hlen]; exact h0
      ·right; exact ZDC hmay (by omega)
theorem ZLR {e:TypeId} {s:ByteArray} {K:Nat→Nat→Hp→Prop} (hle:h.le w) (frle:fr.le w) (dj:h.dj fr) (hk:ZNm e s h K):
 ∃ b cap h' w',K b cap h'∧(Conv.stringToBytes e s).run P w=.ok (.slice (some ⟨b,0,none⟩) s.size cap) w'∧ZAS h fr h' w w':=by
 obtain ⟨nc,hnc,hch⟩:∃ nc,s.size≤nc∧(choose (.appendCap s.size 0 e)).run P w=.ok nc w.drew:=by
  refine ⟨_,?_,by rw [run_choose]; simp only [Question.forced,Bool.false_eq_true,if_false]; rfl⟩
  simp only [Question.cut]; omega
 have hK:=hk nc (List.replicate (nc-s.size) (.int .u8 0)) w.heap.size hnc (by simp) (Hp.le_lt hle (Nat.le_refl _))
 let cells:Array Value:=(ZDj (s.data.toList.map fun (x:UInt8)=>(x.toNat:Int))++List.replicate (nc-s.size) (Value.int .u8 0)).toArray
 have hcells:(s.data.map fun b=>Value.int .u8 b.toNat)++Array.replicate (nc-s.size) (.int .u8 0)=cells:=by
  apply Array.ext'
  simp [cells,ZDj]
 have hsize:cells.size=nc:=by
  show (ZDj _++_).length=nc
  simp [ZDj]
  show s.size+_=nc
  omega
 refine ⟨_,_,_,((w.drew).alloc (.cells cells e)).freeze ⟨w.heap.size,nc,none⟩ 1,hK,?_,?_⟩
 ·unfold Conv.stringToBytes
  simp only [Sem.run_bind,hch,Result.andThen_ok,hcells,newRow,run_newObj,Sem.run_pure,markStringish]
  have hsh:(({w.drew with heap:=w.drew.heap.push (.cells cells e)}:World)).shape? w.drew.heap.size=some (e,nc):=by
   have h9:(w.drew.heap.push (Obj.cells cells e))[w.drew.heap.size]?=some (.cells cells e):=by
    show (w.heap.push (Obj.cells cells e))[w.heap.size]?=_
    simp
   unfold World.shape?
   dsimp only
   rw [h9]
   simp only [hsize]
  simp only [run_shape,hsh,Result.andThen_ok,run_freeze]
  rfl
 ·have hblk:(((w.drew).alloc (.cells cells e)).freeze ⟨w.heap.size,nc,none⟩ 1).heap[w.heap.size]?=some (.cells cells e (nc,nc+1)):=by
   simp only [World.freeze,Nat.one_ne_zero,if_false,Array.getElem?_modify,if_true]
   show (Option.map _ ((w.heap.push (.cells cells e))[w.heap.size]?))=_
   simp
  have hold:∀ k,k≠w.heap.size→(((w.drew).alloc (.cells cells e)).freeze ⟨w.heap.size,nc,none⟩ 1).heap[k]?=w.heap[k]?:=by
   intro k hk
   simp only [World.freeze,Nat.one_ne_zero,if_false,Array.getElem?_modify]
   rw [if_neg (Ne.symm hk)]
   show (w.heap.push _)[k]?=_
   rw [Array.getElem?_push,if_neg hk]
  refine ⟨?_,?_,Hp.upd_dj dj (Hp.le_lt frle (Nat.le_refl _)) _,?_,?_⟩
  ·intro k o hk
   unfold Hp.upd at hk
   split at hk
   ·rename_i ek; subst ek; cases hk; exact hblk
   ·rename_i ek; rw [hold k ek]; exact hle k o hk
  ·intro k o hk
   rw [hold k (by rintro rfl; rw [Hp.le_lt frle (Nat.le_refl _)] at hk; cases hk)]; exact frle k o hk
  ·refine ⟨?_,?_,?_⟩<;>simp [World.freeze]<;>rfl
  ·intro b hb h1 _
   exact ⟨hold b (by omega),by simp only [Hp.upd,if_neg (show b≠w.heap.size by omega)]; exact h1⟩
theorem ZUd {ad:Addr} {K:Hp→Prop} (hle:h.le w) (frle:fr.le w) (dj:h.dj fr) (hk:ZYi ad h K):
 ∃ h' w',K h'∧(markStringish ad).run P w=.ok () w'∧ZAS h fr h' w w':=by
 obtain ⟨c,e,fz,hb,hk⟩:=hk
 have hw:=hle _ _ hb
 refine ⟨_,w.freeze ⟨ad.block,c.size,none⟩ 1,hk,?_,?_⟩
 ·have hsh:w.shape? ad.block=some (e,c.size):=by simp [World.shape?,hw]
  simp only [markStringish,Sem.run_bind,run_shape,hsh,Result.andThen_ok,run_freeze]
 ·have hblk:(w.freeze ⟨ad.block,c.size,none⟩ 1).heap[ad.block]?=some (.cells c e (frz c.size fz)):=by
   simp only [World.freeze,Nat.one_ne_zero,if_false,Array.getElem?_modify,if_true,hw]
   simp [frz]
  have hold:∀ k,k≠ad.block→(w.freeze ⟨ad.block,c.size,none⟩ 1).heap[k]?=w.heap[k]?:=by
   intro k hk
   simp only [World.freeze,Nat.one_ne_zero,if_false,Array.getElem?_modify]
   rw [if_neg (Ne.symm hk)]
  have hfr:fr ad.block=none:=by
   rcases dj ad.block with e'|e'
   ·rw [hb] at e'; cases e'
   ·exact e'
  refine ⟨?_,?_,Hp.upd_dj dj hfr _,?_,?_⟩
  ·intro k o hk
   unfold Hp.upd at hk
   split at hk
   ·rename_i ek; subst ek; cases hk; exact hblk
   ·rename_i ek; rw [hold k ek]; exact hle k o hk
  ·intro k o hk
   rw [hold k (by rintro rfl; rw [hfr] at hk; cases hk)]; exact frle k o hk
  ·refine ⟨?_,?_,?_⟩<;>simp [World.freeze]
  ·intro b hb' h1 _
   have:b≠ad.block:=by rintro rfl; rw [hb] at h1; cases h1
   exact ⟨hold b this,by simp only [Hp.upd,if_neg this]; exact h1⟩
theorem ZAS.set (hle:h.le w) (frle:fr.le w) (dj:h.dj fr) {b:Nat} {o o':Obj} (hb:h b=some o):ZAS h fr (h.upd b o') w {w with heap:=w.heap.setIfInBounds b o'}:=by
 have hw:=hle _ _ hb
 have hlt:b<w.heap.size:=by
  rcases Nat.lt_or_ge b w.heap.size with h|h
  ·exact h
  ·rw [Array.getElem?_eq_none h] at hw; cases hw
 have hold:∀ k,k≠b→(w.heap.setIfInBounds b o')[k]?=w.heap[k]?:=fun k hk=>by rw [Array.getElem?_setIfInBounds_ne (Ne.symm hk)]
 have hfr:fr b=none:=by
  rcases dj b with e'|e'
  ·rw [hb] at e'; cases e'
  ·exact e'
 refine ⟨?_,?_,?_,⟨rfl,rfl,rfl⟩,?_⟩
 ·intro k o hk
  unfold Hp.upd at hk
  split at hk
  ·rename_i ek; subst ek; cases hk; show (w.heap.setIfInBounds _ _)[_]?=_; rw [Array.getElem?_setIfInBounds_self,if_pos hlt]
  ·rename_i ek; show (w.heap.setIfInBounds _ _)[_]?=_; rw [hold k ek]; exact hle k o hk
 ·intro k o hk
  show (w.heap.setIfInBounds _ _)[_]?=_
  rw [hold k (by rintro rfl; rw [hfr] at hk; cases hk)]; exact frle k o hk
 ·exact Hp.upd_dj dj hfr o'
 ·intro c _ h1 _
  have:c≠b:=by rintro rfl; rw [hb] at h1; cases h1
  exact ⟨hold c this,by simp only [Hp.upd,if_neg this]; exact h1⟩
theorem ZGF {c:Cdc} {kk:IntKind} {z:c.T} (n:Int):∀ (l:List (Int×c.T×Nat)) (i:Nat),
 ∃ r,Instr.findNow (.int kk) (.int kk n) (l.map fun e=>({key:=.int kk e.1,val:=c.enc e.2.1,born:=e.2.2}:MapEntry)) i=some r∧
  (match r with|some (_,v)=>v|none=>c.enc z)=c.enc (ZPd z n l)∧((∀ e∈l,n≠e.1)→r=none):=by
 intro l
 induction l with
 | nil=>intro i; exact ⟨none,rfl,rfl,fun _=>rfl⟩
 | cons e l ih=>
   intro i
   have e1:Instr.sameNow (.int kk) (.int kk n) (.int kk e.1)=some (n==e.1):=by simp [Instr.sameNow]
   by_cases hn:n=e.1
   ·refine ⟨some (i,c.enc e.2.1),?_,?_,fun h=>absurd hn (h e (by simp))⟩
    ·simp only [List.map_cons,Instr.findNow]
     rw [e1,hn]; simp
    ·simp [ZPd,hn]
   ·obtain ⟨r,h1,h2,h3⟩:=ih (i+1)
    refine ⟨r,?_,?_,fun h=>h3 fun x hx=>h x (by simp [hx])⟩
    ·simp only [List.map_cons,Instr.findNow]
     rw [e1]
     have:(n==e.1)=false:=by simpa using hn
     rw [this]; exact h1
    ·rw [h2]; simp [ZPd,hn]
theorem ZXy (hP:ZGb P A) (R:Rel A N bx env a h fr w0 w) {o:Oper} {k:EV→Hp→Prop} (hk:opW A P o (look A env) h k):ZZu P o a w h fr k:=by
 obtain ⟨dst,op,type,pos,after,guard⟩:=o
 cases op<;>simp only [opW] at hk<;>try exact hk.elim
 case store t x y=>
  split at hk
  ·rename_i c ad v hc hx hy
   cases hf:ZAn P c t with
   | false=>rw [hf] at hk; exact hk.elim
   | true=>
     rw [hf] at hk
     simp only [cond_true] at hk
     split at hk
     ·rename_i z hz
      obtain ⟨hmay,hk⟩:=hk
      have hv:=c.law _ _ hz
      subst hv
      have hf':=hf
      simp only [ZAn,Bool.and_eq_true] at hf'
      obtain ⟨⟨hm,_⟩,hn⟩:=hf'
      cases hs:ZAl P t with
      | none=>rw [hs] at hn; cases hn
      | some sz=>
        rw [hs] at hn
        have hn:=ZFC.1 hn
        subst hn
        obtain ⟨hsz,hone⟩:=ZAV hm z
        have hsc:=ZBZ (P:=P) ad (c.enc z).cells.toList 0 w (by simpa [hsz] using ZSJ R.hle hmay) hone
        refine .inr (.inl ⟨_,_,hk,?_,ZAS.wrs R.hle R.frle R.dj ad (c.enc z).cells.toList ?_⟩)
        ·simp only [execOp,Instr.storeAt,R.eval_v hx,R.eval_v hy,Instr.sureAddr,Sem.run_bind,Sem.run_pure,Result.andThen_ok,storeVar,ZBn hs]
         rw [if_neg (by simp [hsz])]
         simp only [hsc,Result.andThen_ok]
        ·by_cases h0:c.n=0
         ·left
          apply List.eq_nil_of_length_eq_zero
          simp [hsz,h0]
         ·right; exact ZDC hmay (by omega)
     ·exact hk.elim
  ·exact hk.elim
 case lookup t x ix ok=>
  split at hk
  ·rename_i kt et hu
   split at hk
   ·rename_i kk c z hk1 hc hz
    split at hk
    ·rename_i m k' n hx hix
     split at hk
     ·rename_i zz hd hzz
      obtain ⟨r,l,clock,rfl,hb,hk⟩:=hk
      have hd:=of_decide_eq_true hd
      subst hd
      have hw:=R.hle _ _ hb
      obtain ⟨q,hq1,hq2,_⟩:=ZGF (c:=c) (kk:=kk) (z:=zz) n l 0
      refine .inl ⟨_,_,_,_,hk,.inl rfl,?_,ZAS.refl R.hle R.frle R.dj⟩
      have hzv:z=c.enc zz:=(c.law _ _ hzz).symm
      have hck0:∀ m b w,(Instr.checkKey b (m+1) kt (.int kk n)).run P w=.ok () w:=fun m b w=>by
          simp only [Instr.checkKey,Sem.run_bind,Zc hk1,Result.andThen_ok]; rfl
      have hck:∀ b w,(Instr.checkKey b 10000 kt (.int kk n)).run P w=.ok () w:=hck0 9999
      simp only [execOp,Instr.lookup,R.eval_v hx,R.eval_v hix,Sem.run_bind,Zc hu,Result.andThen_ok,(by simp [getObj,Sem.run,hw,ZMb]:(getObj r).run P w=.ok (ZMb c kk l clock) w)]
      simp only [Sem.run_bind,Sem.run_pure,Result.andThen_ok,hck,Instr.findKey,Zc hk1,hq1]
      cases q with
      | none=>simp only [Sem.run_bind,Sem.run_pure,Result.andThen_ok,ZDB hz,hzv]; rw [←hq2]; rfl
      | some q=>simp only [Sem.run_bind,Sem.run_pure,Result.andThen_ok]; rw [←hq2]; rfl
     ·exact hk.elim
    ·exact hk.elim
   ·exact hk.elim
  ·exact hk.elim
 case mapUpdate t x ix y=>
  split at hk
  ·rename_i kt et hu
   split at hk
   ·rename_i kk c hk1 hc
    split at hk
    ·rename_i m k' n v hx hix hy
     split at hk
     ·rename_i vv hd hvv
      obtain ⟨r,l,clock,rfl,hb,hno,hk⟩:=hk
      have hd:=of_decide_eq_true hd
      subst hd
      have hw:=R.hle _ _ hb
      obtain ⟨q,hq1,_,hq3⟩:=ZGF (c:=c) (kk:=kk) (z:=vv) n l 0
      have hq:=hq3 hno
      subst hq
      refine .inr (.inl ⟨_,_,hk,?_,ZAS.set R.hle R.frle R.dj hb⟩)
      have hvv':v=c.enc vv:=(c.law _ _ hvv).symm
      have hck0:∀ m b w,(Instr.checkKey b (m+1) kt (.int kk n)).run P w=.ok () w:=fun m b w=>by
          simp only [Instr.checkKey,Sem.run_bind,Zc hk1,Result.andThen_ok]; rfl
      have hck:∀ b w,(Instr.checkKey b 10000 kt (.int kk n)).run P w=.ok () w:=hck0 9999
      simp only [execOp,Instr.mapUpdate,R.eval_v hx,R.eval_v hix,R.eval_v hy,Sem.run_bind,Zc hu,Result.andThen_ok,(by simp [getObj,Sem.run,hw,ZMb]:(getObj r).run P w=.ok (ZMb c kk l clock) w)]
      simp only [ZMb,Sem.run_bind,Sem.run_pure,Result.andThen_ok,hck,Instr.findKey,Zc hk1,hq1,hvv']
      have hso:∀ o,(setObj r o).run P w=.ok () {w with heap:=w.heap.setIfInBounds r o}:=fun o=>by simp [setObj,Sem.run,hw,ZMb]
      rw [hso]
      simp
     ·exact hk.elim
    ·exact hk.elim
   ·exact hk.elim
  ·exact hk.elim
 case select cs block=>
  refine .inr (.inr (.inr ?_))
  split at hk
  ·rename_i sc
   split at hk
   ·rename_i hsend
    split at hk
    ·rename_i c z r hc hz hr
     have hrun:∀ b:Option Nat,a.eval sc.chan=.chan b→(execOp a.eval {dst:=dst,op:=.select #[sc] false,type:=type,pos:=pos,after:=after,guard:=guard}).run P w=.ok (.comm #[{chan:=.chan b,send:=none,zero:=z}] false .select) w:=by
          intro b hb
          simp [execOp,hb,hsend,ZDB hz]
     have hev:=R.eval_v hr
     cases r with
     | none=>exact ⟨_,_,w,_,hk,hrun none hev,ZAS.refl R.hle R.frle R.dj,fun f l es h=>Conc.step_lone_select_recv_nil h⟩
     | some r=>
       obtain ⟨cap,l,s,r',hb,hk⟩:=hk
       have hw:=R.hle _ _ hb
       cases l with
       | nil=>exact ⟨_,_,w,_,hk,hrun (some r) hev,ZAS.refl R.hle R.frle R.dj,fun f l es h=>Conc.step_lone_select_default h hw⟩
       | cons v l=>
         obtain ⟨x,rfl,hk⟩:=hk
         refine ⟨_,_,_,_,hk,hrun (some r) hev,ZAS.set R.hle R.frle R.dj hb,fun f l' es h=>?_⟩
         have:=Conc.step_lone_select_recv_buf h hw (by simp)
         simpa [World.setChan,goInt] using this
    ·exact hk.elim
   ·rename_i x hsend
    split at hk
    ·rename_i z r v hz hr hx
     have hrun:∀ b:Option Nat,a.eval sc.chan=.chan b→(execOp a.eval {dst:=dst,op:=.select #[sc] false,type:=type,pos:=pos,after:=after,guard:=guard}).run P w=.ok (.comm #[{chan:=.chan b,send:=some v,zero:=z}] false .select) w:=by
          intro b hb
          simp [execOp,hb,hsend,ZDB hz,R.eval_v hx]
     have hev:=R.eval_v hr
     cases r with
     | none=>exact ⟨_,_,w,_,hk,hrun none hev,ZAS.refl R.hle R.frle R.dj,fun f l es h=>Conc.step_lone_select_send_nil h⟩
     | some r=>
       obtain ⟨cap,buf,s,r',hb,h1,h2⟩:=hk
       have hw:=R.hle _ _ hb
       by_cases hc:cap≤buf.size
       ·exact ⟨_,_,w,_,h1 hc,hrun (some r) hev,ZAS.refl R.hle R.frle R.dj,fun f l es h=>Conc.step_lone_select_send_full h hw hc⟩
       ·refine ⟨_,_,_,_,h2 (by omega),hrun (some r) hev,ZAS.set R.hle R.frle R.dj hb,fun f l es h=>Conc.step_lone_select_send_room h hw (by omega)⟩
    ·exact hk.elim
  ·exact hk.elim
 case convert s d x=>
  split at hk
  ·rename_i e st hs hd hx
   split at hk
   ·rename_i hu
    obtain ⟨b,cap,h',w',hk,hr,hst⟩:=ZLR (P:=P) R.hle R.frle R.dj hk
    refine .inl ⟨_,_,_,_,hk,.inl rfl,?_,hst⟩
    simp only [execOp,convert,R.eval_v hx,Sem.run_bind,Zc hs,Zc hd,Result.andThen_ok]
    rw [Zc hu]
    simp [hr]
   ·exact hk.elim
  ·rename_i e' e ad len cap hs hd hx
   split at hk
   ·rename_i hu
    cases hq:Nat.beq s d with
    | false=>rw [hq] at hk; exact hk.elim
    | true=>
      rw [hq] at hk
      have hq:=ZFC.1 hq
      subst hq
      obtain ⟨h',w',hk,hr,hst⟩:=ZUd (P:=P) R.hle R.frle R.dj hk
      refine .inl ⟨_,_,_,_,hk,.inl rfl,?_,hst⟩
      simp only [execOp,convert,R.eval_v hx,Sem.run_bind,Zc hs,Result.andThen_ok]
      have he:e'=e:=by rw [hs] at hd; cases hd; rfl
      subst he
      rw [Zc hu]
      simp [hr]
   ·exact hk.elim
  ·exact hk.elim
 case call c=>
  obtain ⟨callee,args,ats⟩:=c
  dsimp only at hk
  split at hk
  ·rename_i f l hl
   have hargs:args.map a.eval=l.toArray:=Array.ext' (by simpa using ZAW R hl)
   split at hk
   ·rename_i g first captured hfv
    split at hk
    ·rename_i r hr
     obtain ⟨⟨fn,body,hfn,hbody⟩,hk⟩:=hk
     refine .inr (.inr (.inl ⟨g,(first.toList++(l++captured.toList)).toArray,?_,hk.mono ?_⟩))
     ·have hng:=hP.noNG g fn hfn
      simp only [execOp,resolve,Deferred.ofValue,R.eval_v hfv,hargs,Sem.run_bind,Sem.run_pure,Result.andThen_ok,invoke,callFunc,run_program,hfn,hng,Bool.false_eq_true,if_false,hbody,Option.isNone_some]
      congr 2
      apply Array.ext'
      simp
     ·rintro v h' ⟨y,rfl,hk⟩; exact hk
    ·split at hk
     ·rename_i r hr
      split at hk
      ·rename_i fn hfn
       split at hk
       ·rename_i body hbody
        refine .inr (.inr (.inl ⟨g,(first.toList++(l++captured.toList)).toArray,?_,hk.mono ?_⟩))
        ·have hng:=hP.noNG g fn hfn
         simp only [execOp,resolve,Deferred.ofValue,R.eval_v hfv,hargs,Sem.run_bind,Sem.run_pure,Result.andThen_ok,invoke,callFunc,run_program,hfn,hng,Bool.false_eq_true,if_false,hbody,Option.isNone_some]
         congr 2
         apply Array.ext'
         simp
        ·rintro v h' ⟨y,rfl,hk⟩; exact hk
       ·obtain ⟨x,hx,hk⟩:=hk
        refine .inl ⟨_,_,_,_,hk,.inl rfl,?_,ZAS.refl R.hle R.frle R.dj⟩
        have hx:=hx w R.hle
        simp only [execOp,resolve,Deferred.ofValue,R.eval_v hfv,hargs,Sem.run_bind,Sem.run_pure,Result.andThen_ok,invoke]
        rw [←hx]
        congr 2
        apply Array.ext'
        simp
      ·exact hk.elim
     ·exact hk.elim
   ·exact hk.elim
  ·rename_i p len cap q n cap' hl
   have hargs:args.map a.eval=#[.slice p len cap,.slice q n cap']:=Array.ext' (by simpa using ZAW R hl)
   split at hk
   ·rename_i t u ht hu
    split at hk
    ·rename_i e u' ht' hu'
     split at hk
     ·rename_i cd hcd
      cases hq:(ZAn P cd e&&(Nat.ble 1 (ZAu P e)&&(Nat.ble (ZAu P e) 1048576&&ZDz P e))) with
      | false=>rw [hq] at hk; exact hk.elim
      | true=>
        rw [hq] at hk
        simp only [cond_true] at hk
        simp only [Bool.and_eq_true] at hq
        obtain ⟨p',l',c',h',w',hk,hr,hst⟩:=ZN8 (w:=w) (ty:=type) (cap':=cap') ht hu ht' hu' hq.1 rfl (Nat.le_of_ble_eq_true hq.2.1) (Nat.le_of_ble_eq_true hq.2.2.1) hq.2.2.2 R.hle R.frle R.dj hk
        exact .inl ⟨_,_,_,_,hk,.inl rfl,by simp only [execOp,resolve,hargs,Sem.run_bind,Sem.run_pure,Result.andThen_ok,invoke,builtin,hr],hst⟩
     ·exact hk.elim
    ·exact hk.elim
   ·exact hk.elim
  ·rename_i p len cap q n cap' hl
   have hargs:args.map a.eval=#[.slice p len cap,.slice q n cap']:=Array.ext' (by simpa using ZAW R hl)
   split at hk
   ·rename_i t ht
    split at hk
    ·rename_i e ht'
     split at hk
     ·rename_i cd hcd
      cases hq:ZAn P cd e with
      | false=>rw [hq] at hk; exact hk.elim
      | true=>
        rw [hq] at hk
        simp only [cond_true] at hk
        obtain ⟨m,h',w',hk,hr,hst⟩:=ZTP (P:=P) (ty:=type) (cap:=cap) (cap':=cap') ht ht' hq R.hle R.frle R.dj hk
        exact .inl ⟨_,_,_,_,hk,.inl rfl,by simp only [execOp,resolve,hargs,Sem.run_bind,Sem.run_pure,Result.andThen_ok,invoke,builtin,hr],hst⟩
     ·exact hk.elim
    ·exact hk.elim
   ·exact hk.elim
  ·rename_i p n cap hl
   have hargs:args.map a.eval=#[.slice p n cap]:=Array.ext' (by simpa using ZAW R hl)
   split at hk
   ·rename_i t ht
    split at hk
    ·rename_i e ht'
     split at hk
     ·rename_i cd z hcd hz
      cases hq:ZAn P cd e with
      | false=>rw [hq] at hk; exact hk.elim
      | true=>
        rw [hq] at hk
        simp only [cond_true] at hk
        split at hk
        ·rename_i x hx
         obtain ⟨h',w',hk,hr,hst⟩:=ZRN (P:=P) (ty:=type) (cap:=cap) ht ht' hq hz (cd.law _ _ hx).symm R.hle R.frle R.dj hk
         exact .inl ⟨_,_,_,_,hk,.inl rfl,by simp only [execOp,resolve,hargs,Sem.run_bind,Sem.run_pure,Result.andThen_ok,invoke,builtin,hr],hst⟩
        ·exact hk.elim
     ·exact hk.elim
    ·exact hk.elim
   ·exact hk.elim
  ·exact hk.elim
end
def ZHY (A:Ann) (P:Program) (o:Oper) (env:Env) (h:Hp) (K:Env→Hp→Prop):Prop:=
 match cls A P o with
 | .p=>opP A P o (look A env) fun e=>K (put A env (ZAr A o) e) h
 | .c=>opC A P o (look A env) fun e=>K (put A env o.dst e) h
 | .r=>opR A P o (look A env) h fun e=>K (put A env o.dst e) h
 | .a=>opA P o (look A env) fun ob f=>ZL ob h fun b h'=>K (put A env o.dst (.val (f b))) h'
 | .w=>opW A P o (look A env) h fun e h'=>K (put A env o.dst e) h'
def ZFX (N:Nat) (o:Oper):Bool:=
 match o.dst with
 | some d=>Nat.ble (d+1) N
 | none=>true
def ZXP (env:Env) (s:Nat) (b:Bool):Env:=fun k=>bif Nat.beq k s then .val (.bool b) else env k
def ZBg (ops:Array Oper) (o:Oper):Option (Nat×Bool):=
 match o.guard with
 | none=>none
 | some (g,want)=>match ops[g]? with
   | some og=>match og.dst with
     | some s=>some (s,want)
     | none=>none
   | none=>none
def ZAN (A:Ann) (P:Program) (N:Nat) (ops:Array Oper) (o:Oper) (env:Env) (h:Hp) (K:Env→Hp→Prop):Prop:=
 bif ZFX N o then
  match o.guard with
  | none=>ZHY A P o env h K
  | some _=>match ZBg ops o with
    | some (s,want)=>match env s with
      | .val (.bool b)=>ZB b
            (cond want (ZHY A P o (ZXP env s true) h K) (K (put A (ZXP env s true) o.dst (.val undef)) h))
            (cond want (K (put A (ZXP env s false) o.dst (.val undef)) h) (ZHY A P o (ZXP env s false) h K))
      | .val (.tuple ⟨[]⟩)=>K (put A env o.dst (.val undef)) h
      | _=>False
    | none=>False
 else False
def ZJD (A:Ann) (o:Oper) (env:Env) (h:Hp):Prop:=
 match o.op with
 | .load t x=>match o.dst with
   | some d=>match env d with
     | .val v=>match v with
       | .tuple ⟨[]⟩=>True
       | v=>match A.cdc t,look A env x with
         | some c,.v (.pointer (some a))=>match c.dec v with
           | some y=>h.rds a (c.enc y).cells.toList
           | none=>False
         | _,_=>False
     | _=>False
   | none=>False
 | .convert _ _ x=>match o.dst with
   | some d=>match env d with
     | .val v=>match v with
       | .tuple ⟨[]⟩=>True
       | .string s=>match look A env x with
         | .v (.slice a len _)=>ZXM a len h fun s'=>s'=s
         | _=>False
       | _=>False
     | _=>False
   | none=>False
 | _=>False
def ZCA (A:Ann) (ops:Array Oper) (env:Env) (h:Hp):List Nat→Prop
 | []=>True
 | i::l=>(match ops[i]? with|some o=>ZJD A o env h|none=>False)∧ZCA A ops env h l
def ZH4 (A:Ann) (P:Program) (N:Nat) (ops:Array Oper):List (Nat×List Nat)→Env→Hp→(Env→Hp→Prop)→Prop
 | [],env,h,K=>K env h
 | (i,[])::l,env,h,K=>match ops[i]? with
   | some o=>ZAN A P N ops o env h fun e h=>ZH4 A P N ops l e h K
   | none=>False
 | (i,ks)::l,env,h,K=>match ops[i]? with
   | some o=>ZAN A P N ops o env h fun e h=>ZCA A ops e h ks∧ZH4 A P N ops l e h K
   | none=>False
section
variable {P:Program} {A:Ann} {N:Nat} {bx:Nat→Nat} {env:Env} {a:Act} {h fr:Hp} {w0 w:World} {ops:Array Oper}
def ZSv (P:Program) (ops:Array Oper) (i:Nat) (a:Act) (w:World) (K:Act→World→Prop):Prop:=
 ∀ (b:Frame) (rest:List Nat) (k:List Item) (cs:List Frame),∃ a' w',K a' w'∧
  Steps P (lone (b.at a (.inRegion ops (i::rest)::k)) cs w) (lone (b.at a' (.inRegion ops rest::k)) cs w')
def St (A:Ann) (N:Nat) (fr:Hp) (w0:World) (K:Env→Hp→Prop) (a:Act) (w:World):Prop:=
 ∃ bx env h,Rel A N bx env a h fr w0 w∧K env h
theorem ZRp {i:Nat} {o:Oper} {K:Act→World→Prop} (hi:ops[i]?=some o) (hw:Region.wanted o (yielded ops a.tmps)=false) (hk:K (a.put o.dst undef) w):
 ZSv P ops i a w K:=by
 intro b rest k cs
 refine ⟨_,_,hk,.one ?_⟩
 have hs:=step_op_skip (P:=P) (b:=b) (a:=a) (k:=k) (cs:=cs) (w:=w) (ops:=ops) (i:=i) (rest:=rest) (by simp [hi,hw])
 simpa [hi] using hs
theorem ZDd {i:Nat} {o:Oper} {K:Act→World→Prop} {a':Act} {w':World} (hi:ops[i]?=some o) (hw:Region.wanted o (yielded ops a.tmps)=true)
 (hd:Did P o a w a' w') (hk:K a' w'):ZSv P ops i a w K:=by
 intro b rest k cs
 have hg:=stepG_op (P:=P) (b:=b) (k:=k) (cs:=cs) (w:=w) (rest:=rest) hi hw
 have hfin:∀ v,(b.at a (.inRegion ops (i::rest)::k)).finish v=b.at (a.put o.dst v) (.inRegion ops rest::k):=by
  intro v; rw [Frame.finish_at,hi]; rfl
 rcases hd with ⟨v,hr,rfl⟩|⟨hr,rfl⟩
 ·refine ⟨_,_,hk,.one (step_lone_go ?_)⟩
  rw [hg,←hfin]; simp [stepG.apply,hr]
 ·refine ⟨_,_,hk,.one (step_lone_go ?_)⟩
  rw [hg,←hfin]; simp [stepG.apply,hr]
theorem ZJo {i:Nat} {o:Oper} {K:Act→World→Prop} {f:FuncId} {args:Array Value} (hi:ops[i]?=some o) (hw:Region.wanted o (yielded ops a.tmps)=true)
 (hr:(execOp a.eval o).run P w=.ok (.enter f args) w) (hc:Calls P f args w fun e w'=>∃ v,e=.returned v∧K (a.put o.dst v) w'):ZSv P ops i a w K:=by
 intro b rest k cs
 have hg:=stepG_op (P:=P) (b:=b) (k:=k) (cs:=cs) (w:=w) (rest:=rest) hi hw
 have hfin:∀ v,(b.at a (.inRegion ops (i::rest)::k)).finish v=b.at (a.put o.dst v) (.inRegion ops rest::k):=by
  intro v; rw [Frame.finish_at,hi]; rfl
 obtain ⟨e,w'',fr',⟨v,rfl,hk⟩,hsteps,_,hleave⟩:=hc (b.at a (.inRegion ops (i::rest)::k)::cs)
 have henter:step P (lone (b.at a (.inRegion ops (i::rest)::k)) cs w)=
  .next (lone (Frame.enter P f args .normal) (b.at a (.inRegion ops (i::rest)::k)::cs) w):=
  step_lone_go (by rw [hg]; simp [stepG.apply,hr,Frame.at])
 refine ⟨_,_,hk,.head henter (Steps.trans hsteps (.one ?_))⟩
 rw [←hfin]; exact step_leave_returned hleave
theorem ZPp {i:Nat} {o:Oper} {K:Act→World→Prop} {v:Value} {w':World} {ccs:Array CommCase} (hi:ops[i]?=some o) (hw:Region.wanted o (yielded ops a.tmps)=true)
 (hr:(execOp a.eval o).run P w=.ok (.comm ccs false .select) w)
 (hst:∀ (f:Frame) (l:List Frame) (es:Array Event),stepG P true (Conc.G f l) w=.comm (Conc.G f l) ccs false .select w es→step P (Conc.solo (Conc.G f l) w)=.next (Conc.solo (Conc.G (f.finish v) l) w'))
 (hk:K (a.put o.dst v) w'):ZSv P ops i a w K:=by
 intro b rest k cs
 have hg:=stepG_op (P:=P) (b:=b) (k:=k) (cs:=cs) (w:=w) (rest:=rest) hi hw
 have hfin:∀ v,(b.at a (.inRegion ops (i::rest)::k)).finish v=b.at (a.put o.dst v) (.inRegion ops rest::k):=by
  intro v; rw [Frame.finish_at,hi]; rfl
 have hg':∃ es,stepG P true {frame:=b.at a (.inRegion ops (i::rest)::k),callers:=cs,status:=.running,dying:=none} w=
  .comm (Conc.G (b.at a (.inRegion ops (i::rest)::k)) cs) ccs false .select w es:=by
  have e1:stepG.apply P true (b.at a (.inRegion ops (i::rest)::k)) cs none (execOp a.eval o) w=
   GStep.after (seen P (b.at a (.inRegion ops (i::rest)::k)).fn (if (b.at a (.inRegion ops (i::rest)::k)).kind=.early then #[] else Sem.events P (execOp a.eval o) w #[]))
    (GStep.comm {frame:=b.at a (.inRegion ops (i::rest)::k),callers:=cs,status:=.running,dying:=none} ccs false .select w):=by
   simp [stepG.apply,hr]
  exact ⟨_,(hg.trans e1).trans rfl⟩
 obtain ⟨es,hg'⟩:=hg'
 refine ⟨_,_,hk,.one ?_⟩
 rw [←hfin]
 exact hst (b.at a (.inRegion ops (i::rest)::k)) cs es hg'
theorem Hp.emp_le (w:World):Hp.emp.le w:=fun b o h=>by cases h
theorem Hp.emp_dj (g:Hp):Hp.emp.dj g:=fun _=>.inl rfl
theorem ZQz (hP:ZGb P A) (R:Rel A N bx env a h fr w0 w) {i:Nat} {o:Oper} (hi:ops[i]?=some o) (hd:∀ k,o.dst=some k→k<N) (hw:Region.wanted o (yielded ops a.tmps)=true)
 {K:Env→Hp→Prop} (hk:ZHY A P o env h K):ZSv P ops i a w (St A N fr w0 K):=by
 unfold ZHY at hk
 cases hc:cls A P o with
 | p=>
   rw [hc] at hk
   obtain ⟨ev,bx',a',w',hk,R',hdid⟩:=ZXm hP R hd hc hk
   exact ZDd hi hw hdid ⟨_,_,_,R',hk⟩
 | c=>
   rw [hc] at hk
   obtain ⟨dst,op,type,pos,after,guard⟩:=o
   simp only [opC] at hk
   cases op<;>simp only at hk<;>try exact hk.elim
   rename_i c
   obtain ⟨callee,args,ats⟩:=c
   dsimp only at hk
   split at hk
   ·rename_i g
    split at hk
    ·rename_i l r fn hl hr hfn
     split at hk
     ·rename_i body hbody
      obtain ⟨x,hs,hk⟩:=hk
      have hargs:args.map a.eval=l.toArray:=Array.ext' (by simpa using ZAW R hl)
      refine ZJo (f:=g) (args:=l.toArray) hi hw ?_ ?_
      ·have hng:=hP.noNG g fn hfn
       simp only [execOp,resolve,Deferred.ofValue,Act.eval,hargs,Sem.run_bind,Sem.run_pure,Result.andThen_ok,invoke,callFunc,run_program,hfn,hng,Bool.false_eq_true,if_false,hbody,Option.isNone_some]
       congr 2
       simp
      ·refine (hs w (h.un ((ZEn bx env w).un fr)) (Hp.emp_le w) (Hp.un_le R.hle (Hp.un_le R.boxes_le R.frle)) (Hp.emp_dj _)).mono ?_
       rintro e w' ⟨v,h',rfl,⟨rfl,rfl⟩,_,hfr,_,sm⟩
       have dj1:=Hp.dj_un R.boxes_dj R.dj
       have R':=R.called (h':=h) (Hp.le_un_left hfr) (Hp.le_un_right dj1 hfr) dj1 sm
       exact ⟨_,rfl,_,_,_,R'.put hP.good hd (ev:=.val (r.enc x)) rfl,hk⟩
     ·exact hk.elim
    ·exact hk.elim
   ·exact hk.elim
 | r=>
   rw [hc] at hk
   obtain ⟨v,hk,hr⟩:=ZYX hP R hk
   exact ZDd hi hw (.inl ⟨v,hr,rfl⟩) ⟨_,_,_,R.put hP.good hd (ev:=.val v) rfl,hk⟩
 | a=>
   rw [hc] at hk
   obtain ⟨ob,f,hk,hr⟩:=ZXe hP R hk
   have hs:=ZAS.alloc R.hle R.frle R.dj ob
   have R':=R.world hs.hle hs.frle hs.dj hs.same hs.keep
   exact ZDd hi hw (.inl ⟨_,hr,rfl⟩) ⟨_,_,_,R'.put hP.good hd (ev:=.val (f w.heap.size)) rfl,hk w.heap.size (Hp.le_lt R.hle (Nat.le_refl _))⟩
 | w=>
   rw [hc] at hk
   rcases ZXy hP R hk with ⟨ev,v,h',w',hk,hev,hr,hs⟩|⟨h',w',hk,hr,hs⟩|⟨f,args,hr,hs⟩|⟨v,h',w',ccs,hk,hr,hs,hst⟩
   ·have R':=R.world hs.hle hs.frle hs.dj hs.same hs.keep
    have hev':ZYd A bx env o.dst ev v:=by rcases hev with rfl|rfl<;>simp [ZYd]
    exact ZDd hi hw (.inl ⟨_,hr,rfl⟩) ⟨_,_,_,R'.put hP.good hd hev',hk⟩
   ·have R':=R.world hs.hle hs.frle hs.dj hs.same hs.keep
    exact ZDd hi hw (.inr ⟨hr,rfl⟩) ⟨_,_,_,R'.put hP.good hd (ev:=.unk) trivial,hk⟩
   ·refine ZJo hi hw hr ?_
    refine (hs w ((ZEn bx env w).un fr) R.hle (Hp.un_le R.boxes_le R.frle) (Hp.dj_un R.boxes_dj R.dj)).mono ?_
    rintro e w' ⟨v,h',rfl,hk,hle',hfr,hdj,sm⟩
    have R':=R.called hle' hfr hdj sm
    exact ⟨_,rfl,_,_,_,R'.put hP.good hd (ev:=.val v) rfl,hk⟩
   ·have R':=R.world hs.hle hs.frle hs.dj hs.same hs.keep
    exact ZPp hi hw hr hst ⟨_,_,_,R'.put hP.good hd (ev:=.val v) rfl,hk⟩
theorem ZLT {s:Nat} {b:Bool} (he:env s=.val (.bool b)):ZXP env s b=env:=by
 funext k
 unfold ZXP
 cases hk:Nat.beq k s with
 | true=>rw [ZFC.1 hk,he]; rfl
 | false=>rfl
inductive ZSr (ops:Array Oper) (o:Oper) (env:Env):Bool→Prop
 | free (h:o.guard=none):ZSr ops o env true
 | at_ (s:Nat) (want b:Bool) (g:Nat) (hg:o.guard=some (g,want)) (hs:ZBg ops o=some (s,want)) (he:env s=.val (.bool b)):ZSr ops o env (b==want)
 | not_ (s:Nat) (want:Bool) (g:Nat) (hg:o.guard=some (g,want)) (hs:ZBg ops o=some (s,want)) (he:env s=.val undef):ZSr ops o env false
theorem ZEG {o:Oper} {K:Env→Hp→Prop} (hk:ZAN A P N ops o env h K):
 ZFX N o=true∧∃ g,ZSr ops o env g∧(g=true→ZHY A P o env h K)∧(g=false→K (put A env o.dst (.val undef)) h):=by
 unfold ZAN at hk
 cases hdo:ZFX N o with
 | false=>rw [hdo] at hk; exact hk.elim
 | true=>
   rw [hdo] at hk
   refine ⟨rfl,?_⟩
   simp only [cond_true] at hk
   cases hg:o.guard with
   | none=>rw [hg] at hk; exact ⟨true,.free hg,fun _=>hk,fun h=>by cases h⟩
   | some gw=>
     obtain ⟨g,want'⟩:=gw
     rw [hg] at hk
     dsimp only at hk
     cases hs:ZBg ops o with
     | none=>rw [hs] at hk; exact hk.elim
     | some sw=>
       obtain ⟨s,want⟩:=sw
       have hww:want=want':=by
        unfold ZBg at hs
        rw [hg] at hs
        dsimp only at hs
        split at hs
        ·split at hs
         ·cases hs; rfl
         ·cases hs
        ·cases hs
       subst hww
       rw [hs] at hk
       dsimp only at hk
       split at hk
       ·rename_i b he
        refine ⟨b==want,.at_ s want b g hg hs he,?_,?_⟩
        ·intro hb
         cases b<;>cases want<;>simp at hb<;>simp only [cond_true,cond_false,ZLT he] at hk<;>exact hk
        ·intro hb
         cases b<;>cases want<;>simp at hb<;>simp only [cond_true,cond_false,ZLT he] at hk<;>exact hk
       ·rename_i he
        exact ⟨false,.not_ s want g hg hs he,(fun e=>by cases e),fun _=>hk⟩
       ·exact hk.elim
theorem ZAE {o:Oper} {K:Env→Hp→Prop} {g:Bool} (hd:ZFX N o=true) (hg:ZSr ops o env g) (h1:g=true→ZHY A P o env h K) (h2:g=false→K (put A env o.dst (.val undef)) h):
 ZAN A P N ops o env h K:=by
 unfold ZAN
 rw [hd]
 simp only [cond_true]
 cases hg with
 | free hg=>rw [hg]; exact h1 rfl
 | at_ s want b g hg hs he=>
   rw [hg]
   simp only [hs,he]
   cases b<;>cases want<;>simp only [cond_true,cond_false,ZLT he]<;>first|exact h1 rfl|exact h2 rfl
 | not_ s want g hg hs he=>
   rw [hg]
   simp only [hs,he,undef]
   exact h2 rfl
theorem ZFb {o:Oper} (h:ZFX N o=true):∀ k,o.dst=some k→k<N:=by
 intro k hk
 unfold ZFX at h
 rw [hk] at h
 exact Nat.le_of_ble_eq_true h
theorem ZHH (R:Rel A N bx env a h fr w0 w) {o:Oper} {g:Bool} (hg:ZSr ops o env g):Region.wanted o (yielded ops a.tmps)=g:=by
 cases hg with
 | free hg=>simp [Region.wanted,hg]
 | at_ s want b g hg hs he=>
   have hsl:=R.slot s
   rw [he] at hsl
   simp only [ZC5] at hsl
   unfold ZBg at hs
   rw [hg] at hs
   dsimp only at hs
   split at hs
   ·rename_i og hog
    split at hs
    ·rename_i s' hds
     cases hs
     simp only [Region.wanted,hg,yielded,hog,Option.bind_some,hds,hsl]
     cases b<;>cases want<;>rfl
    ·cases hs
   ·cases hs
 | not_ s want g hg hs he=>
   have hsl:=R.slot s
   rw [he] at hsl
   simp only [ZC5] at hsl
   unfold ZBg at hs
   rw [hg] at hs
   dsimp only at hs
   split at hs
   ·rename_i og hog
    split at hs
    ·rename_i s' hds
     cases hs
     simp only [Region.wanted,hg,yielded,hog,Option.bind_some,hds,hsl,undef]
     rfl
    ·cases hs
   ·cases hs
theorem ZEF (hP:ZGb P A) (R:Rel A N bx env a h fr w0 w) {i:Nat} {o:Oper} (hi:ops[i]?=some o) {K:Env→Hp→Prop} (hk:ZAN A P N ops o env h K):
 ZSv P ops i a w (St A N fr w0 K):=by
 obtain ⟨hdo,g,hg,h1,h2⟩:=ZEG hk
 have hw:=ZHH R hg
 cases g with
 | true=>exact ZQz hP R hi (ZFb hdo) hw (h1 rfl)
 | false=>exact ZRp hi hw ⟨_,_,_,R.put hP.good (ZFb hdo) (ev:=.val undef) rfl,h2 rfl⟩
end
def Lin (F:(EV→Prop)→Prop):Prop:=∀ k,F k→∃ e,k e∧∀ k',k' e→F k'
theorem Lin.at_ (e:EV):Lin fun k=>k e:=fun _ hk=>⟨e,hk,fun _ h=>h⟩
theorem Lin.no:Lin fun _=>False:=fun _ hk=>hk.elim
theorem Lin.and {C:Prop} {F:(EV→Prop)→Prop} (h:Lin F):Lin fun k=>C∧F k:=fun k ⟨c,hk⟩=>
 let ⟨e,h1,h2⟩:=h k hk; ⟨e,h1,fun k' h'=>⟨c,h2 k' h'⟩⟩
theorem Lin.ex {X:Type} {F:X→(EV→Prop)→Prop} (h:∀ x,Lin (F x)):Lin fun k=>∃ x,F x k:=fun k ⟨x,hk⟩=>
 let ⟨e,h1,h2⟩:=h x k hk; ⟨e,h1,fun k' h'=>⟨x,h2 k' h'⟩⟩
theorem Lin.cond {b:Bool} {F G:(EV→Prop)→Prop} (h:Lin F) (g:Lin G):Lin fun k=>cond b (F k) (G k):=by
 cases b
 ·exact g
 ·exact h
section
variable {A:Ann} {P:Program}
theorem ZFK (d:Option Tmp) (l:LV):Lin (moveL A d l):=by
 cases l with
 | v v=>exact Lin.at_ _
 | r t off cs=>
   cases d with
   | none=>exact Lin.at_ _
   | some d=>exact Lin.cond (Lin.at_ _) (Lin.at_ _)
 | no=>exact Lin.at_ _
theorem ZHP (d:Option Tmp) (t off:Nat):Lin (refTo A d t off):=by
 cases d with
 | none=>exact Lin.no
 | some d=>exact Lin.cond (Lin.at_ _) Lin.no
theorem ZK6 (agg:Bool) (n:Nat) (cs:List Value) (off:Nat):Lin (ZJW agg n cs off):=by
 unfold ZJW
 cases agg with
 | true=>exact Lin.cond (Lin.at_ _) Lin.no
 | false=>
   dsimp only
   cases cs[off]? with
   | none=>exact Lin.no
   | some v=>exact Lin.at_ _
theorem ZNa (p:Option Addr) (F:Addr→(EV→Prop)→Prop) (h:∀ a,Lin (F a)):Lin fun k=>ZR p fun a=>F a k:=by
 cases p with
 | none=>exact Lin.no
 | some a=>exact h a
theorem ZUL (p:Option Addr) (len:Nat) (i:Int) (F:Addr→(EV→Prop)→Prop) (h:∀ a,Lin (F a)):Lin fun k=>Zi p len i fun a=>F a k:=
 Lin.and (Lin.and (ZNa p F h))
theorem ZMD (len:Nat) (i:Int) {F:(EV→Prop)→Prop} (h:Lin F):Lin fun k=>atP len i (F k):=Lin.and (Lin.and h)
theorem ZBi (len cap:Nat) (lo hi:Option Int) (F:Nat→Nat→(EV→Prop)→Prop) (h:∀ l m,Lin (F l m)):Lin fun k=>ZAD len cap lo hi fun l m=>F l m k:=by
 unfold ZAD
 cases hi<;>cases lo<;>dsimp only<;>(repeat apply Lin.and)<;>exact h _ _
theorem ZJ6 (cap:Nat) (lo:Option Int) (j m:Int) (F:Nat→Nat→Nat→(EV→Prop)→Prop) (h:∀ a b c,Lin (F a b c)):Lin fun k=>ZH3 cap lo j m fun a b c=>F a b c k:=by
 unfold ZH3
 cases lo<;>dsimp only<;>(repeat apply Lin.and)<;>exact h _ _ _
theorem ZUq (op:BinOp) (t:TypeId) (x y:Value):Lin (ZYG A P op t x y):=by
 intro k hk
 unfold ZYG at hk ⊢
 split at hk
 ·cases op<;>dsimp only at hk ⊢
  case shl=>exact Lin.and (Lin.at_ _) k hk
  case shr=>exact Lin.and (Lin.at_ _) k hk
  all_goals
   split at hk
   ·exact hk.elim
   ·first
     | exact ⟨_,hk,fun k' h=>h⟩
     | exact Lin.and (Lin.at_ _) k hk
 ·split at hk
  ·exact ⟨_,hk,fun k' h=>h⟩
  ·exact ⟨_,hk,fun k' h=>h⟩
  ·exact hk.elim
 ·split at hk
  ·exact ⟨_,hk,fun k' h=>h⟩
  ·exact ⟨_,hk,fun k' h=>h⟩
  ·exact hk.elim
 ·split at hk
  ·exact ⟨_,hk,fun k' h=>h⟩
  ·exact ⟨_,hk,fun k' h=>h⟩
  ·exact hk.elim
 ·split at hk
  ·exact ⟨_,hk,fun k' h=>h⟩
  ·exact ⟨_,hk,fun k' h=>h⟩
  ·exact hk.elim
 ·cases hq:A.eqs t with
  | false=>rw [hq] at hk; exact hk.elim
  | true=>
    rw [hq] at hk
    simp only [cond_true] at hk ⊢
    split at hk
    ·exact ⟨_,hk,fun k' h=>h⟩
    ·exact ⟨_,hk,fun k' h=>h⟩
    ·exact hk.elim
 ·exact hk.elim
theorem ZRC (o:Oper) (ρ:Operand→LV):Lin (opP A P o ρ):=by
 obtain ⟨dst,op,type,pos,after,guard⟩:=o
 cases op
 case move x=>exact ZFK _ _
 case assign x=>exact ZFK _ _
 case pick c x y=>
  intro k hk
  simp only [opP] at hk ⊢
  split at hk
  ·exact Lin.cond (ZFK _ _) (ZFK _ _) k hk
  ·exact hk.elim
 case alloc e=>
  intro k hk
  simp only [opP] at hk ⊢
  split at hk
  ·exact ⟨_,hk,fun k' h=>h⟩
  ·exact hk.elim
 case box e x=>
  intro k hk
  simp only [opP] at hk ⊢
  split at hk
  ·exact ⟨_,hk,fun k' h=>h⟩
  ·exact hk.elim
 case build t ps=>
  intro k hk
  simp only [opP] at hk ⊢
  split at hk
  ·split at hk
   ·exact ⟨_,hk,fun k' h=>h⟩
   ·exact hk.elim
  ·split at hk
   ·exact ⟨_,hk,fun k' h=>h⟩
   ·exact hk.elim
  ·exact hk.elim
 case nilCheck x=>
  intro k hk
  simp only [opP] at hk ⊢
  split at hk
  ·exact ZNa _ _ (fun a=>Lin.at_ _) k hk
  ·exact ⟨_,hk,fun k' h=>h⟩
  ·exact ZHP _ _ _ k hk
  ·exact hk.elim
 case binOp op t x y ty=>
  intro k hk
  simp only [opP] at hk ⊢
  split at hk
  ·exact ZUq _ _ _ _ k hk
  ·exact hk.elim
 case unOp op t x=>
  intro k hk
  simp only [opP] at hk ⊢
  split at hk
  ·exact ⟨_,hk,fun k' h=>h⟩
  ·exact ⟨_,hk,fun k' h=>h⟩
  ·exact hk.elim
 case convert s d x=>
  intro k hk
  simp only [opP] at hk ⊢
  split at hk
  ·exact ⟨_,hk,fun k' h=>h⟩
  ·exact hk.elim
 case makeInterface t x=>
  intro k hk
  simp only [opP] at hk ⊢
  split at hk
  ·exact hk.elim
  ·exact ⟨_,hk,fun k' h=>h⟩
  ·exact hk.elim
 case makeFunc fn l m=>
  intro k hk
  simp only [opP] at hk ⊢
  split at hk
  ·exact ⟨_,hk,fun k' h=>h⟩
  ·exact hk.elim
 case fieldAddr s x f=>
  intro k hk
  simp only [opP] at hk ⊢
  split at hk
  ·split at hk
   ·split at hk
    ·split at hk
     ·exact ⟨_,hk,fun k' h=>h⟩
     ·exact ZHP _ _ _ k hk
     ·exact hk.elim
    ·exact hk.elim
   ·exact hk.elim
  ·exact hk.elim
 case field s x f=>
  intro k hk
  simp only [opP] at hk ⊢
  split at hk
  ·split at hk
   ·split at hk
    ·exact ZK6 _ _ _ _ k hk
    ·exact hk.elim
   ·exact hk.elim
  ·exact hk.elim
 case load t x=>
  intro k hk
  simp only [opP] at hk ⊢
  split at hk
  ·cases hdy:ZQq A x with
   | false=>rw [hdy] at hk; exact ZK6 _ _ _ _ k hk
   | true=>
     rw [hdy] at hk
     simp only [cond_true] at hk ⊢
     split at hk
     ·rename_i c hc
      exact Lin.cond (Lin.ex fun x=>Lin.and (Lin.at_ _)) Lin.no k hk
     ·exact hk.elim
  ·exact hk.elim
 case store t x y=>
  intro k hk
  simp only [opP] at hk ⊢
  split at hk
  ·refine Lin.cond ?_ Lin.no k hk
   refine Lin.cond ?_ (Lin.cond (Lin.at_ _) Lin.no)
   split
   ·exact Lin.and (Lin.ex fun x=>Lin.and (Lin.at_ _))
   ·exact Lin.no
  ·exact hk.elim
 case indexAddr t x ix=>
  intro k hk
  simp only [opP] at hk ⊢
  split at hk
  ·split at hk
   ·exact ZUL _ _ _ _ (fun a=>Lin.at_ _) k hk
   ·exact hk.elim
  ·split at hk
   ·exact ZMD _ _ (Lin.at_ _) k hk
   ·exact ZMD _ _ (ZHP _ _ _) k hk
   ·exact hk.elim
  ·exact hk.elim
 case index t x ix=>
  intro k hk
  simp only [opP] at hk ⊢
  split at hk
  ·exact ZMD _ _ (Lin.at_ _) k hk
  ·exact hk.elim
 case slice t x lo hi mx=>
  intro k hk
  simp only [opP] at hk ⊢
  split at hk
  ·split at hk
   ·exact hk.elim
   ·split at hk
    ·exact ZBi _ _ _ _ _ (fun l m=>Lin.at_ _) k hk
    ·exact ZBi _ _ _ _ _ (fun l m=>Lin.at_ _) k hk
    ·exact ZBi _ _ _ _ _ (fun l m=>Lin.at_ _) k hk
    ·exact ZBi _ _ _ _ _ (fun l m=>Lin.at_ _) k hk
    ·exact ZJ6 _ _ _ _ _ (fun a b c=>Lin.at_ _) k hk
    ·exact ZJ6 _ _ _ _ _ (fun a b c=>Lin.at_ _) k hk
    ·exact hk.elim
  ·split at hk
   ·exact ZBi _ _ _ _ _ (fun l m=>Lin.at_ _) k hk
   ·exact ZBi _ _ _ _ _ (fun l m=>Lin.at_ _) k hk
   ·exact ZBi _ _ _ _ _ (fun l m=>Lin.at_ _) k hk
   ·exact hk.elim
  ·split at hk
   ·exact hk.elim
   ·split at hk
    ·exact ZBi _ _ _ _ _ (fun l m=>Lin.at_ _) k hk
    ·exact ZBi _ _ _ _ _ (fun l m=>Lin.at_ _) k hk
    ·exact ZBi _ _ _ _ _ (fun l m=>Lin.at_ _) k hk
    ·exact ZBi _ _ _ _ _ (fun l m=>Lin.at_ _) k hk
    ·exact hk.elim
  ·exact hk.elim
 case extract x i=>
  intro k hk
  simp only [opP] at hk ⊢
  split at hk
  ·split at hk
   ·exact ⟨_,hk,fun k' h=>h⟩
   ·exact hk.elim
  ·exact hk.elim
 case call c=>
  intro k hk
  simp only [opP] at hk ⊢
  split at hk
  ·split at hk
   ·exact ⟨_,hk,fun k' h=>h⟩
   ·exact ⟨_,hk,fun k' h=>h⟩
   ·exact ⟨_,hk,fun k' h=>h⟩
   ·exact hk.elim
  ·exact ⟨_,hk,fun k' h=>h⟩
  ·exact ⟨_,hk,fun k' h=>h⟩
  ·exact hk.elim
 all_goals (intro k hk; exact hk.elim)
theorem ZSW (o:Oper) (ρ:Operand→LV):Lin (opC A P o ρ):=by
 obtain ⟨dst,op,type,pos,after,guard⟩:=o
 cases op
 case call c=>
  intro k hk
  simp only [opC] at hk ⊢
  split at hk
  ·split at hk
   ·split at hk
    ·exact Lin.ex (fun x=>Lin.and (Lin.at_ _)) k hk
    ·exact hk.elim
   ·exact hk.elim
  ·exact hk.elim
 all_goals (intro k hk; exact hk.elim)
def Hp.sub (h g:Hp):Prop:=∀ b o,h b=some o→g b=some o
theorem Hp.sub_refl (h:Hp):h.sub h:=fun _ _ h=>h
theorem Hp.sub_cell {h g:Hp} (s:h.sub g) {a:Addr} {v:Value} (e:h.cell? a=some v):g.cell? a=some v:=by
 unfold Hp.cell? at e ⊢
 cases hb:h a.block with
 | none=>rw [hb] at e; cases e
 | some o=>rw [hb] at e; rw [s _ _ hb]; exact e
theorem Hp.sub_rds {h g:Hp} (s:h.sub g) {a:Addr} {cs:List Value} (r:h.rds a cs):g.rds a cs:=fun i v hv=>Hp.sub_cell s (r i v hv)
theorem Hp.sub_upd {h:Hp} {b:Nat} (hb:h b=none) (o:Obj):h.sub (h.upd b o):=by
 intro k o' hk
 unfold Hp.upd
 rw [if_neg (by rintro rfl; rw [hb] at hk; cases hk)]; exact hk
theorem ZL2 (o:Oper) (ρ:Operand→LV) (h:Hp):∀ k,opR A P o ρ h k→∃ e,k e∧∀ k' h',h.sub h'→k' e→opR A P o ρ h' k':=by
 obtain ⟨dst,op,type,pos,after,guard⟩:=o
 intro k hk
 cases op
 case load t x=>
  simp only [opR] at hk ⊢
  split at hk
  ·rename_i c a hc hx
   cases hq:ZAn P c t with
   | false=>rw [hq] at hk; exact hk.elim
   | true=>
     rw [hq] at hk
     obtain ⟨y,hy,hk⟩:=hk
     exact ⟨_,hk,fun k' h' hs hk'=>⟨y,Hp.sub_rds hs hy,hk'⟩⟩
  ·exact hk.elim
 case convert s d x=>
  simp only [opR] at hk ⊢
  split at hk
  ·rename_i e a len cap h1 h2 h3
   split at hk
   ·cases a with
    | none=>exact ⟨_,hk,fun k' h' hs hk'=>hk'⟩
    | some a=>
      obtain ⟨xs,hl,hr,hk⟩:=hk
      exact ⟨_,hk,fun k' h' hs hk'=>⟨xs,hl,Hp.sub_rds hs hr,hk'⟩⟩
   ·exact hk.elim
  ·exact hk.elim
 case call c=>
  simp only [opR] at hk ⊢
  split at hk
  ·rename_i t r h1 h2 h3
   cases hq:ZP0 P t with
   | false=>rw [hq] at hk; exact hk.elim
   | true=>
     rw [hq] at hk
     cases r with
     | none=>exact ⟨_,hk,fun k' h' hs hk'=>hk'⟩
     | some r=>
       obtain ⟨cap,buf,cl,s,r',hh,hk⟩:=hk
       exact ⟨_,hk,fun k' h' hs hk'=>⟨cap,buf,cl,s,r',hs _ _ hh,hk'⟩⟩
  ·exact hk.elim
 all_goals exact hk.elim
theorem ZWF (o:Oper) (ρ:Operand→LV):∀ k,opA P o ρ k→∃ ob f,k ob f∧∀ k':Obj→(Nat→Value)→Prop,k' ob f→opA P o ρ k':=by
 obtain ⟨dst,op,type,pos,after,guard⟩:=o
 intro k hk
 cases op
 case alloc e=>
  simp only [opA] at hk ⊢
  split at hk
  ·exact ⟨_,_,hk,fun k' h=>h⟩
  ·exact hk.elim
 case box e x=>
  simp only [opA] at hk ⊢
  split at hk
  ·exact ⟨_,_,hk,fun k' h=>h⟩
  ·exact hk.elim
 case buildSlice t n ps=>
  simp only [opA] at hk ⊢
  split at hk
  ·rename_i e l hu hl
   split at hk
   ·rename_i m z hm hz
    cases hq:Nat.ble (n*m) 16777216 with
    | false=>rw [hq] at hk; exact hk.elim
    | true=>
      rw [hq] at hk
      simp only [cond_true] at hk ⊢
      split at hk
      ·rename_i cs hf
       exact ⟨_,_,hk,fun k' h=>h⟩
      ·exact hk.elim
   ·exact hk.elim
  ·exact hk.elim
 case makeSlice t l c=>
  simp only [opA] at hk ⊢
  split at hk
  ·rename_i e kn n km m hu hl hc
   split at hk
   ·cases hq:ZDz P e with
    | false=>rw [hq] at hk; exact hk.elim
    | true=>
      rw [hq] at hk
      simp only [cond_true] at hk ⊢
      obtain ⟨h0,h1,h2,h3,hk⟩:=hk
      exact ⟨_,_,hk,fun k' h=>⟨h0,h1,h2,h3,h⟩⟩
   ·exact hk.elim
  ·exact hk.elim
 case makeChan t n=>
  simp only [opA] at hk ⊢
  split at hk
  ·split at hk
   ·obtain ⟨h0,h1,h2,hk⟩:=hk
    exact ⟨_,_,hk,fun k' h=>⟨h0,h1,h2,h⟩⟩
   ·exact hk.elim
  ·exact hk.elim
 case makeMap t r=>
  simp only [opA] at hk ⊢
  split at hk
  ·exact ⟨_,_,hk,fun k' h=>h⟩
  ·exact hk.elim
 all_goals exact hk.elim
theorem ZMu (o:Oper) (ρ:Operand→LV) (h:Hp) (k k':EV→Hp→Prop) (hkk:∀ e h',k e h'→k' e h'):opW A P o ρ h k→opW A P o ρ h k':=by
 obtain ⟨dst,op,type,pos,after,guard⟩:=o
 intro hk
 cases op
 case store t x y=>
  simp only [opW] at hk ⊢
  split at hk
  ·rename_i c a v hc hx hy
   cases hq:ZAn P c t with
   | false=>rw [hq] at hk; exact hk.elim
   | true=>
     rw [hq] at hk
     simp only [cond_true] at hk ⊢
     split at hk
     ·exact ⟨hk.1,hkk _ _ hk.2⟩
     ·exact hk.elim
  ·exact hk.elim
 case convert s d x=>
  simp only [opW] at hk ⊢
  split at hk
  ·split at hk
   ·exact fun cap pad b h1 h2 h3=>hkk _ _ (hk cap pad b h1 h2 h3)
   ·exact hk.elim
  ·split at hk
   ·cases hq:Nat.beq s d with
    | false=>rw [hq] at hk; exact hk.elim
    | true=>
      rw [hq] at hk
      obtain ⟨c,e,fz,hb,hk⟩:=hk
      exact ⟨c,e,fz,hb,hkk _ _ hk⟩
   ·exact hk.elim
  ·exact hk.elim
 case call c=>
  simp only [opW] at hk ⊢
  split at hk
  ·split at hk
   ·split at hk
    ·exact ⟨hk.1,hk.2.mono fun v h' ⟨x,e,hx⟩=>⟨x,e,hkk _ _ hx⟩⟩
    ·split at hk
     ·split at hk
      ·split at hk
       ·exact hk.mono fun v h' ⟨x,e,hx⟩=>⟨x,e,hkk _ _ hx⟩
       ·obtain ⟨x,hx,hk⟩:=hk; exact ⟨x,hx,hkk _ _ hk⟩
      ·exact hk.elim
     ·exact hk.elim
   ·exact hk.elim
  ·rename_i p len cap q n cap' hcal hl
   split at hk
   ·rename_i t u ht hu
    split at hk
    ·rename_i e u' ht' hu'
     split at hk
     ·rename_i cd hcd
      cases hq:(ZAn P cd e&&(Nat.ble 1 (ZAu P e)&&(Nat.ble (ZAu P e) 1048576&&ZDz P e))) with
      | false=>rw [hq] at hk; exact hk.elim
      | true=>
        rw [hq] at hk
        simp only [cond_true] at hk ⊢
        have em:∀ (a:Option Addr) (n:Nat) (K K':List cd.T→Prop),(∀ xs,K xs→K' xs)→ZB6 cd a n h K→ZB6 cd a n h K':=by
          intro a n K K' hKK he
          cases a with
          | none=>exact ⟨he.1,hKK _ he.2⟩
          | some a=>obtain ⟨xs,h1,h2,h3⟩:=he; exact ⟨xs,h1,h2,hKK _ h3⟩
        refine em _ _ _ _ ?_ hk
        rintro ys ⟨h1,h2⟩
        refine ⟨fun hc=>?_,fun hc=>?_⟩
        ·have:=h1 hc
         cases p with
         | none=>exact hkk _ _ this
         | some ad=>exact ⟨this.1,hkk _ _ this.2⟩
        ·obtain ⟨h3,h4⟩:=h2 hc
         refine ⟨h3,em _ _ _ _ ?_ h4⟩
         intro xs h5 nc pad h6 h7 b hb
         exact hkk _ _ (h5 nc pad h6 h7 b hb)
     ·exact hk.elim
    ·exact hk.elim
   ·exact hk.elim
  ·rename_i p len cap q n cap' hcal hl
   split at hk
   ·split at hk
    ·split at hk
     ·rename_i cd hcd
      cases hq:ZAn P cd _ with
      | false=>rw [hq] at hk; exact hk.elim
      | true=>
        rw [hq] at hk
        simp only [cond_true] at hk ⊢
        unfold ZA6 at hk ⊢
        unfold ZB6 at hk ⊢
        cases q with
        | none=>
          refine ⟨hk.1,?_⟩
          have:=hk.2
          cases p with
          | none=>exact hkk _ _ this
          | some ad=>exact ⟨this.1,hkk _ _ this.2⟩
        | some q=>
          obtain ⟨xs,h1,h2,this⟩:=hk
          refine ⟨xs,h1,h2,?_⟩
          cases p with
          | none=>exact hkk _ _ this
          | some ad=>exact ⟨this.1,hkk _ _ this.2⟩
     ·exact hk.elim
    ·exact hk.elim
   ·exact hk.elim
  ·rename_i p n cap hcal hl
   split at hk
   ·split at hk
    ·split at hk
     ·rename_i cd z hcd hz
      cases hq:ZAn P cd _ with
      | false=>rw [hq] at hk; exact hk.elim
      | true=>
        rw [hq] at hk
        simp only [cond_true] at hk ⊢
        split at hk
        ·cases p with
         | none=>exact hkk _ _ hk
         | some ad=>exact ⟨hk.1,hkk _ _ hk.2⟩
        ·exact hk.elim
     ·exact hk.elim
    ·exact hk.elim
   ·exact hk.elim
  ·exact hk.elim
 case lookup t x ix ok=>
  simp only [opW] at hk ⊢
  split at hk
  ·split at hk
   ·split at hk
    ·split at hk
     ·obtain ⟨r,l,clock,h1,h2,h3⟩:=hk
      exact ⟨r,l,clock,h1,h2,hkk _ _ h3⟩
     ·exact hk.elim
    ·exact hk.elim
   ·exact hk.elim
  ·exact hk.elim
 case mapUpdate t x ix y=>
  simp only [opW] at hk ⊢
  split at hk
  ·split at hk
   ·split at hk
    ·split at hk
     ·obtain ⟨r,l,clock,h1,h2,h3,h4⟩:=hk
      exact ⟨r,l,clock,h1,h2,h3,hkk _ _ h4⟩
     ·exact hk.elim
    ·exact hk.elim
   ·exact hk.elim
  ·exact hk.elim
 case select cs block=>
  simp only [opW] at hk ⊢
  split at hk
  ·split at hk
   ·split at hk
    ·rename_i c z r hc hz hr
     cases r with
     | none=>exact hkk _ _ hk
     | some r=>
       obtain ⟨cap,l,s,r',hb,hk⟩:=hk
       refine ⟨cap,l,s,r',hb,?_⟩
       cases l with
       | nil=>exact hkk _ _ hk
       | cons v l=>obtain ⟨x,hx,hk⟩:=hk; exact ⟨x,hx,hkk _ _ hk⟩
    ·exact hk.elim
   ·split at hk
    ·rename_i z r v hz hr hx
     cases r with
     | none=>exact hkk _ _ hk
     | some r=>
       obtain ⟨cap,l,s,r',hb,h1,h2⟩:=hk
       exact ⟨cap,l,s,r',hb,fun h=>hkk _ _ (h1 h),fun h=>hkk _ _ (h2 h)⟩
    ·exact hk.elim
  ·exact hk.elim
 all_goals exact hk.elim
end
section
variable {A:Ann} {P:Program}
theorem ZCP {ρ ρ':Operand→LV}:∀ {l:List Operand},(∀ x∈l,ρ x=ρ' x)→ZHw ρ l=ZHw ρ' l:=by
 intro l
 induction l with
 | nil=>intro _; rfl
 | cons x l ih=>
   intro h
   unfold ZHw
   rw [h x (by simp),ih fun y hy=>h y (List.mem_cons_of_mem _ hy)]
theorem ZHc {ρ ρ':Operand→LV}:∀ {l:List (Nat×Operand)},(∀ x∈l,ρ x.2=ρ' x.2)→ZC2 ρ l=ZC2 ρ' l:=by
 intro l
 induction l with
 | nil=>intro _; rfl
 | cons x l ih=>
   intro h
   obtain ⟨i,x⟩:=x
   unfold ZC2
   rw [h (i,x) (by simp),ih fun y hy=>h y (List.mem_cons_of_mem _ hy)]
theorem ZHj {ρ ρ':Operand→LV} {o:Option Operand} (h:∀ x∈o,ρ x=ρ' x):o.map ρ=o.map ρ':=by
 cases o with
 | none=>rfl
 | some x=>simp [h x rfl]
theorem ZKG {o:Oper} {ρ ρ':Operand→LV} (h:∀ x∈o.op.operands,ρ x=ρ' x):opP A P o ρ=opP A P o ρ':=by
 obtain ⟨dst,op,type,pos,after,guard⟩:=o
 funext k
 cases op<;>simp only [Op.operands] at h<;>simp only [opP]
 case move x=>rw [h x (by simp)]
 case assign x=>rw [h x (by simp)]
 case pick c a b=>rw [h c (by simp),h a (by simp),h b (by simp)]
 case box e x=>rw [h x (by simp)]
 case build t ps=>rw [ZHc fun x hx=>h x.2 (by simp; exact ⟨x.1,by simpa using hx⟩)]
 case nilCheck x=>rw [h x (by simp)]
 case binOp op t x y ty=>rw [h x (by simp),h y (by simp)]
 case unOp op t x=>rw [h x (by simp)]
 case convert s d x=>rw [h x (by simp)]
 case makeInterface t x=>rw [h x (by simp)]
 case makeFunc fn l m=>
  rw [ZCP (l:=l.toList) fun x hx=>h x (by simp at hx ⊢; exact .inl hx),ZCP (l:=m.toList) fun x hx=>h x (by simp at hx ⊢; exact .inr hx)]
 case fieldAddr s x f=>rw [h x (by simp)]
 case field s x f=>rw [h x (by simp)]
 case load t x=>rw [h x (by simp)]
 case store t x y=>rw [h x (by simp),h y (by simp)]
 case indexAddr t x i=>rw [h x (by simp),h i (by simp)]
 case index t x i=>rw [h x (by simp),h i (by simp)]
 case slice t x lo hi mx=>
  rw [h x (by simp),ZHj (o:=lo) fun y hy=>h y (by simp at hy ⊢; simp [hy]),ZHj (o:=hi) fun y hy=>h y (by simp at hy ⊢; simp [hy]),ZHj (o:=mx) fun y hy=>h y (by simp at hy ⊢; simp [hy])]
 case extract x i=>rw [h x (by simp)]
 case call c=>rw [ZCP (l:=c.args.toList) fun x hx=>h x (by simp [Call.operands] at hx ⊢; exact .inr hx)]
theorem ZLI {o:Oper} {ρ ρ':Operand→LV} (h:∀ x∈o.op.operands,ρ x=ρ' x):opC A P o ρ=opC A P o ρ':=by
 obtain ⟨dst,op,type,pos,after,guard⟩:=o
 funext k
 cases op<;>simp only [Op.operands] at h<;>simp only [opC]
 case call c=>rw [ZCP (l:=c.args.toList) fun x hx=>h x (by simp [Call.operands] at hx ⊢; exact .inr hx)]
theorem ZKt {o:Oper} {ρ ρ':Operand→LV} (h:∀ x∈o.op.operands,ρ x=ρ' x):opR A P o ρ=opR A P o ρ':=by
 obtain ⟨dst,op,type,pos,after,guard⟩:=o
 funext hp k
 cases op<;>simp only [Op.operands] at h<;>simp only [opR]
 case load t x=>rw [h x (by simp)]
 case convert s d x=>rw [h x (by simp)]
 case call c=>rw [ZCP (l:=c.args.toList) fun x hx=>h x (by simp [Call.operands] at hx ⊢; exact .inr hx)]
theorem ZKZ {o:Oper} {ρ ρ':Operand→LV} (h:∀ x∈o.op.operands,ρ x=ρ' x):opA P o ρ=opA P o ρ':=by
 obtain ⟨dst,op,type,pos,after,guard⟩:=o
 funext k
 cases op<;>simp only [Op.operands] at h<;>simp only [opA]
 case box e x=>rw [h x (by simp)]
 case buildSlice t n ps=>rw [ZHc fun x hx=>h x.2 (by simp; exact ⟨x.1,by simpa using hx⟩)]
 case makeSlice t x y=>rw [h x (by simp),h y (by simp)]
 case makeChan t x=>rw [h x (by simp)]
theorem ZKi {o:Oper} {ρ ρ':Operand→LV} (h:∀ x∈o.op.operands,ρ x=ρ' x):opW A P o ρ=opW A P o ρ':=by
 obtain ⟨dst,op,type,pos,after,guard⟩:=o
 funext hp k
 cases op<;>simp only [Op.operands] at h<;>simp only [opW]
 case store t x y=>rw [h x (by simp),h y (by simp)]
 case convert s d x=>rw [h x (by simp)]
 case lookup t x y ok=>rw [h x (by simp),h y (by simp)]
 case mapUpdate t x y z=>rw [h x (by simp),h y (by simp),h z (by simp)]
 case select cs block=>
  split
  ·rename_i sc
   have h1:=h sc.chan (by simp)
   rw [h1]
   split
   ·rfl
   ·rename_i x hx
    have h2:=h x (by simp [hx])
    rw [h2]
  ·rfl
 case call c=>
  rw [ZCP (l:=c.args.toList) fun x hx=>h x (by simp [Call.operands] at hx ⊢; exact .inr hx)]
  obtain ⟨callee,args,ats⟩:=c
  cases callee with
  | value f=>
    have hf:=h f (by simp [Call.operands])
    cases ZHw ρ' args.toList with
    | none=>rfl
    | some l=>dsimp only; rw [hf]
  | invoke r m=>rfl
  | builtin b=>
    rcases ZHw ρ' args.toList with _|l
    ·cases b<;>rfl
    ·rcases l with _|⟨v,_|⟨u,_|⟨z,l⟩⟩⟩<;>cases b<;>first|rfl|(cases v<;>first|rfl|(cases u<;>rfl))
def ZMe (A:Ann) (x:Operand):List Nat:=
 match x with
 | .tmp t=>t::(A.refOf t).toList
 | _=>[]
def ZC8 (A:Ann) (ops:Array Oper) (o:Oper):List Nat:=
 o.op.operands.toList.flatMap (ZMe A)++(match ZBg ops o with
  | some (s,_)=>s::(A.refOf s).toList
  | none=>[])
def ZAo (A:Ann) (o:Oper):List Nat:=o.dst.toList++(ZAr A o).toList
def ZBE (A:Ann) (d e:Nat):Bool:=!Nat.beq d e&&(!ZAL (A.refOf d) e&&!ZAL (A.refOf e) d)
theorem ZTY (hA:A.good) {env:Env} {d:Nat} {ev:EV} {x:Operand} (hx:d∉ZMe A x):look A (put A env (some d) ev) x=look A env x:=by
 cases x with
 | tmp t=>
   simp only [ZMe,List.mem_cons,Option.mem_toList,not_or] at hx
   obtain ⟨h1,h2⟩:=hx
   have e1:put A env (some d) ev t=env t:=by
    rcases ZBX (A:=A) (env:=env) ev (Ne.symm h1) with h|⟨_,_,h3⟩
    ·exact h
    ·exact absurd h3 h2
   simp only [look,e1]
   cases he:env t with
   | val v=>rfl
   | box cs=>rfl
   | unk=>rfl
   | ref off=>
     simp only
     cases hr:A.refOf t with
     | none=>rfl
     | some t'=>
       have hd:t'≠d:=by rintro rfl; exact h2 hr
       cases hp:A.isProm t' with
       | false=>simp only [hp,cond_false]
       | true=>
         simp only [hp,cond_true]
         rcases ZBX (A:=A) (env:=env) ev hd with h|⟨_,_,h3⟩
         ·rw [h]
         ·rw [hA _ _ h3] at hp; cases hp
 | const v=>rfl
 | func f=>rfl
 | global g=>rfl
end
section
variable {A:Ann} {P:Program} {N:Nat} {ops:Array Oper} {env env2:Env} {h:Hp} {K K':Env→Hp→Prop}
def ZAs (A:Ann) (ops:Array Oper) (o:Oper) (env env2:Env):Prop:=
 (∀ x∈o.op.operands,look A env x=look A env2 x)∧∀ s want,ZBg ops o=some (s,want)→env s=env2 s
def ZDP (cl:Cls) (h h':Hp):Prop:=
 match cl with
 | .w=>True
 | .a=>h'=h∨∃ b o,h b=none∧h'=h.upd b o
 | _=>h'=h
theorem ZK9 (cl:Cls) (h:Hp):ZDP cl h h:=by cases cl<;>first|rfl|trivial|exact .inl rfl
theorem ZSr.agree {o:Oper} {g:Bool} (hg:ZSr ops o env g) (ag:ZAs A ops o env env2):ZSr ops o env2 g:=by
 cases hg with
 | free hg=>exact .free hg
 | at_ s want b g hg hs he=>exact .at_ s want b g hg hs (by rw [←ag.2 s want hs]; exact he)
 | not_ s want g hg hs he=>exact .not_ s want g hg hs (by rw [←ag.2 s want hs]; exact he)
theorem ZO7 {o:Oper} (hk:ZHY A P o env h K) (ag:ZAs A ops o env env2)
 (hKK:∀ d,d=o.dst∨d=ZAr A o→∀ e h',ZDP (cls A P o) h h'→K (put A env d e) h'→K' (put A env2 d e) h'):ZHY A P o env2 h K':=by
 unfold ZHY at hk ⊢
 cases hc:cls A P o with
 | p=>
   rw [hc] at hk hKK
   dsimp only at hk ⊢
   rw [ZKG ag.1] at hk
   obtain ⟨e,h1,h2⟩:=ZRC o _ _ hk
   exact h2 _ (hKK _ (.inr rfl) e h rfl h1)
 | c=>
   rw [hc] at hk hKK
   dsimp only at hk ⊢
   rw [ZLI ag.1] at hk
   obtain ⟨e,h1,h2⟩:=ZSW o _ _ hk
   exact h2 _ (hKK _ (.inl rfl) e h rfl h1)
 | r=>
   rw [hc] at hk hKK
   dsimp only at hk ⊢
   rw [ZKt ag.1] at hk
   obtain ⟨e,h1,h2⟩:=ZL2 o _ _ _ hk
   exact h2 _ _ (Hp.sub_refl h) (hKK _ (.inl rfl) e h rfl h1)
 | a=>
   rw [hc] at hk hKK
   dsimp only at hk ⊢
   rw [ZKZ ag.1] at hk
   obtain ⟨ob,f,h1,h2⟩:=ZWF o _ _ hk
   exact h2 _ fun b hb=>hKK _ (.inl rfl) _ _ (.inr ⟨b,ob,hb,rfl⟩) (h1 b hb)
 | w=>
   rw [hc] at hk hKK
   dsimp only at hk ⊢
   rw [ZKi ag.1] at hk
   exact ZMu o _ h _ _ (fun e h' hk=>hKK _ (.inl rfl) e h' trivial hk) hk
theorem ZCZ {o:Oper} (hk:ZAN A P N ops o env h K) (ag:ZAs A ops o env env2)
 (hKK:∀ d,d=o.dst∨d=ZAr A o→∀ e h',ZDP (cls A P o) h h'→K (put A env d e) h'→K' (put A env2 d e) h'):ZAN A P N ops o env2 h K':=by
 obtain ⟨hd,g,hg,h1,h2⟩:=ZEG hk
 exact ZAE hd (hg.agree ag) (fun e=>ZO7 (h1 e) ag hKK) (fun e=>hKK _ (.inl rfl) (.val undef) h (ZK9 _ h) (h2 e))
theorem ZAs.refl (o:Oper) (env:Env):ZAs A ops o env env:=⟨fun _ _=>rfl,fun _ _ _=>rfl⟩
theorem Z4 {o:Oper} (hk:ZAN A P N ops o env h K) (hKK:∀ e h',K e h'→K' e h'):ZAN A P N ops o env h K':=
 ZCZ hk (ZAs.refl o env) fun _ _ _ _ _ hk=>hKK _ _ hk
def ZTW (cl:Cls):Bool:=
 match cl with
 | .p|.c|.r=>true
 | _=>false
theorem ZKl {o:Oper} (hl:ZTW (cls A P o)=true) (hk:ZAN A P N ops o env h K):
 ∃ d e,(d=o.dst∨d=ZAr A o)∧K (put A env d e) h∧
  ∀ env2 h2 K',ZAs A ops o env env2→(cls A P o=.r→h.sub h2)→K' (put A env2 d e) h2→ZAN A P N ops o env2 h2 K':=by
 obtain ⟨hd,g,hg,h1,h2⟩:=ZEG hk
 cases g with
 | false=>exact ⟨o.dst,.val undef,.inl rfl,h2 rfl,fun env2 h2 K' ag _ hk'=>ZAE hd (hg.agree ag) (fun e=>by cases e) (fun _=>hk')⟩
 | true=>
   have hr:=h1 rfl
   unfold ZHY at hr
   cases hc:cls A P o with
   | p=>
     rw [hc] at hr
     obtain ⟨e,k1,k2⟩:=ZRC o _ _ hr
     refine ⟨ZAr A o,e,.inr rfl,k1,fun env2 h2 K' ag _ hk'=>ZAE hd (hg.agree ag) (fun _=>?_) (fun e=>by cases e)⟩
     unfold ZHY
     rw [hc]
     dsimp only
     rw [←ZKG ag.1]
     exact k2 _ hk'
   | c=>
     rw [hc] at hr
     obtain ⟨e,k1,k2⟩:=ZSW o _ _ hr
     refine ⟨o.dst,e,.inl rfl,k1,fun env2 h2 K' ag _ hk'=>ZAE hd (hg.agree ag) (fun _=>?_) (fun e=>by cases e)⟩
     unfold ZHY
     rw [hc]
     dsimp only
     rw [←ZLI ag.1]
     exact k2 _ hk'
   | r=>
     rw [hc] at hr
     obtain ⟨e,k1,k2⟩:=ZL2 o _ _ _ hr
     refine ⟨o.dst,e,.inl rfl,k1,fun env2 h2 K' ag hs hk'=>ZAE hd (hg.agree ag) (fun _=>?_) (fun e=>by cases e)⟩
     unfold ZHY
     rw [hc]
     dsimp only
     rw [←ZKt ag.1]
     exact k2 _ _ (hs rfl) hk'
   | a=>rw [hc] at hl; cases hl
   | w=>rw [hc] at hl; cases hl
def ZFA (A:Ann) (ops:Array Oper) (x y:Oper):Bool:=
 (ZAo A x).all (fun d=>!(ZC8 A ops y).contains d&&(ZAo A y).all fun e=>ZBE A d e)&&
 (ZAo A y).all fun e=>!(ZC8 A ops x).contains e
theorem ZCQ {o:Oper} {d:Nat} (hd:some d=o.dst∨some d=ZAr A o):d∈ZAo A o:=by
 unfold ZAo
 rcases hd with h|h<;>rw [←h]<;>simp
theorem ZDF (hA:A.good) {o:Oper} {d:Nat} (hd:d∉ZC8 A ops o) (ev:EV):ZAs A ops o (put A env (some d) ev) env:=by
 unfold ZC8 at hd
 simp only [List.mem_append,List.mem_flatMap,not_or,not_exists,not_and] at hd
 refine ⟨fun x hx=>ZTY hA (hd.1 x (by simpa using hx)),fun s want hs=>?_⟩
 have h2:=hd.2
 rw [hs] at h2
 simp only [List.mem_cons,Option.mem_toList,not_or] at h2
 rcases ZBX (A:=A) (env:=env) ev (Ne.symm h2.1) with h|⟨_,_,h3⟩
 ·exact h
 ·exact absurd h3 h2.2
theorem ZAs.symm {o:Oper} (ag:ZAs A ops o env env2):ZAs A ops o env2 env:=⟨fun x hx=>(ag.1 x hx).symm,fun s w hs=>(ag.2 s w hs).symm⟩
theorem ZCu {d e:Nat}:ZBE A d e=true↔d≠e∧A.refOf d≠some e∧A.refOf e≠some d:=by
 unfold ZBE
 simp only [Bool.and_eq_true,Bool.not_eq_true']
 rw [ZSu]
 constructor
 ·rintro ⟨h1,h2,h3⟩
  exact ⟨h1,fun h=>(by rw [ZA3.2 h] at h2; cases h2),fun h=>(by rw [ZA3.2 h] at h3; cases h3)⟩
 ·rintro ⟨h1,h2,h3⟩
  refine ⟨h1,?_,?_⟩
  ·cases hh:ZAL (A.refOf d) e with
   | false=>rfl
   | true=>exact absurd (ZA3.1 hh) h2
  ·cases hh:ZAL (A.refOf e) d with
   | false=>rfl
   | true=>exact absurd (ZA3.1 hh) h3
theorem ZTe {d e:Nat} (h:ZBE A d e=true) (u v:EV):put A (put A env (some d) u) (some e) v=put A (put A env (some e) v) (some d) u:=by
 obtain ⟨h1,h2,h3⟩:=ZCu.1 h
 funext s
 by_cases hd:s=d
 ·subst hd
  rw [ZBy]
  rcases ZBX (A:=A) (env:=put A env (some s) u) v h1 with h|⟨_,_,h4⟩
  ·rw [h,ZBy]
  ·exact absurd h4 h2
 ·by_cases he:s=e
  ·subst he
   rw [ZBy]
   rcases ZBX (A:=A) (env:=put A env (some s) v) u hd with h|⟨_,_,h4⟩
   ·rw [h,ZBy]
   ·exact absurd h4 h3
  ·simp only [put,ZSu.2 hd,ZSu.2 he,cond_false]
   cases (A.isProm e&&ZAL (A.refOf s) e)<;>cases (A.isProm d&&ZAL (A.refOf s) d)<;>rfl
theorem ZFu {x y:Oper}:ZFA A ops x y=true↔(∀ d∈ZAo A x,d∉ZC8 A ops y∧∀ e∈ZAo A y,ZBE A d e=true)∧∀ e∈ZAo A y,e∉ZC8 A ops x:=by
 unfold ZFA
 simp only [Bool.and_eq_true,List.all_eq_true,Bool.not_eq_true',List.contains_eq_mem,decide_eq_false_iff_not]
theorem ZE9 {x y:Oper} (hap:ZFA A ops x y=true) {d e:Option Tmp} (hd:d=x.dst∨d=ZAr A x) (he:e=y.dst∨e=ZAr A y) (u v:EV):
 put A (put A env d u) e v=put A (put A env e v) d u:=by
 cases d with
 | none=>rfl
 | some d=>
   cases e with
   | none=>rfl
   | some e=>exact ZTe ((ZFu.1 hap).1 d (ZCQ hd) |>.2 e (ZCQ he)) u v
theorem ZDO (hA:A.good) {x y:Oper} (hap:ZFA A ops x y=true) {d:Option Tmp} (hd:d=x.dst∨d=ZAr A x) (u:EV):ZAs A ops y (put A env d u) env:=by
 cases d with
 | none=>exact ZAs.refl y env
 | some d=>exact ZDF hA ((ZFu.1 hap).1 d (ZCQ hd)).1 u
theorem ZDJ (hA:A.good) {x y:Oper} (hap:ZFA A ops x y=true) {e:Option Tmp} (he:e=y.dst∨e=ZAr A y) (u:EV):ZAs A ops x (put A env e u) env:=by
 cases e with
 | none=>exact ZAs.refl x env
 | some e=>exact ZDF hA ((ZFu.1 hap).2 e (ZCQ he)) u
def ZRu (ca cb:Cls):Bool:=
 match ca,cb with
 | .p,_=>true
 | .c,_=>true
 | .r,.w=>false
 | .r,_=>true
 | _,_=>false
theorem swap (hA:A.good) {x y:Oper} (hc:ZRu (cls A P x) (cls A P y)=true) (hap:ZFA A ops x y=true)
 (hk:ZAN A P N ops x env h fun e1 h1=>ZAN A P N ops y e1 h1 K):ZAN A P N ops y env h fun e1 h1=>ZAN A P N ops x e1 h1 K:=by
 have hl:ZTW (cls A P x)=true:=by
  cases hx:cls A P x<;>rw [hx] at hc<;>first|rfl|cases hc
 obtain ⟨d,e,hd,HY,RX⟩:=ZKl hl hk
 refine ZCZ HY (ZDO hA hap hd e) ?_
 intro d2 hd2 e2 h' hrel hK
 refine RX _ _ _ (ZDJ hA hap hd2 e2).symm ?_ ?_
 ·intro hr
  rw [hr] at hc
  cases hy:cls A P y with
  | p=>rw [hy] at hrel; simp only [ZDP] at hrel; rw [hrel]; exact Hp.sub_refl h
  | c=>rw [hy] at hrel; simp only [ZDP] at hrel; rw [hrel]; exact Hp.sub_refl h
  | r=>rw [hy] at hrel; simp only [ZDP] at hrel; rw [hrel]; exact Hp.sub_refl h
  | a=>
    rw [hy] at hrel
    rcases hrel with rfl|⟨b,o,hb,rfl⟩
    ·exact Hp.sub_refl _
    ·exact Hp.sub_upd hb o
  | w=>rw [hy] at hc; cases hc
 ·rw [←ZE9 hap hd hd2]; exact hK
theorem ZS3 (hA:A.good) {x y:Oper} (hc:cls A P x=.r) (hap:ZFA A ops x y=true) (hself:(ZAo A x).all (fun d=>!(ZC8 A ops x).contains d)=true)
 (hk:ZAN A P N ops x env h fun e1 h1=>ZAN A P N ops y e1 h1 fun e2 h2=>ZJD A x e2 h2∧K e2 h2):ZAN A P N ops y env h fun e1 h1=>ZAN A P N ops x e1 h1 K:=by
 obtain ⟨hdo,g,hg,h1,h2⟩:=ZEG hk
 have hsl:∀ d,some d=x.dst∨some d=ZAr A x→d∉ZC8 A ops x:=by
  intro d hd
  have:=List.all_eq_true.1 hself d (ZCQ hd)
  simpa using this
 -- kept says: it is a load,and was carried out
 have fin:∀ (u:EV),ZAN A P N ops y (put A env x.dst u) h (fun e2 h2=>ZJD A x e2 h2∧K e2 h2)→(g=true→∀ t ox,x.op=.load t ox→u≠.val undef∧∀ c,A.cdc t=some c→ZAn P c t=true)→
  (g=true→∀ s d ox,x.op=.convert s d ox→u≠.val undef∧∃ e,P.underlying s=some (.slice e)∧P.underlying d=some .string∧P.underlying e=some (.int .u8))→
  (g=false→u=.val undef)→ZAN A P N ops y env h fun e1 h1=>ZAN A P N ops x e1 h1 K:=by
  intro u HY hfit hcv hgu
  refine ZCZ HY (ZDO hA hap (.inl rfl) u) ?_
  intro d2 hd2 e2 h' _ ⟨hkept,hK⟩
  have agx:=(ZDJ (env:=env) hA hap hd2 e2)
  have envF:put A (put A env x.dst u) d2 e2=put A (put A env d2 e2) x.dst u:=ZE9 hap (.inl rfl) hd2 u e2
  rw [envF] at hkept hK
  unfold ZJD at hkept
  split at hkept
  ·rename_i t ox hop
   split at hkept
   ·rename_i d hds
    split at hkept
    ·rename_i v hv
     have hu:u=.val v:=by
          rw [hds,ZBy] at hv; exact hv
     split at hkept
     ·
      have hgt:g=false:=by
          cases g with
          | false=>rfl
          | true=>exact absurd hu (hfit rfl t ox hop).1
      refine ZAE hdo (hg.agree agx.symm) (fun e=>by rw [hgt] at e; cases e) (fun _=>?_)
      rw [hu] at hK
      exact hK
     ·rename_i hnt
      split at hkept
      ·rename_i c ad hcd hlook
       split at hkept
       ·rename_i z hz
        have hgt:g=true:=by
                  cases g with
                  | true=>rfl
                  | false=>rw [hgu rfl] at hu; cases hu; exact absurd rfl (hnt ·)
        have hlaw:=c.law _ _ hz
        refine ZAE hdo (hg.agree agx.symm) (fun _=>?_) (fun e=>by rw [hgt] at e; cases e)
        unfold ZHY
        rw [hc]
        dsimp only
        have hlook':look A (put A env d2 e2) ox=.v (.pointer (some ad)):=by
                  have hm:ox∈x.op.operands:=by rw [hop]; simp [Op.operands]
                  have:=(ZDF (env:=put A env d2 e2) hA (hsl d (.inl hds.symm)) u).1 ox hm
                  rw [←this,←hds]; exact hlook
        simp only [opR,hop,hcd,hlook',(hfit hgt t ox hop).2 c hcd,cond_true]
        exact ⟨z,hkept,by show K (put A (put A env d2 e2) x.dst (EV.val (c.enc z))) h'; rw [hlaw,←hu]; exact hK⟩
       ·exact hkept.elim
      ·exact hkept.elim
    ·exact hkept.elim
   ·exact hkept.elim
  ·rename_i t1 t2 ox hop
   split at hkept
   ·rename_i d hds
    split at hkept
    ·rename_i v hv
     have hu:u=.val v:=by
          rw [hds,ZBy] at hv; exact hv
     split at hkept
     ·have hgt:g=false:=by
          cases g with
          | false=>rfl
          | true=>exact absurd hu (hcv rfl t1 t2 ox hop).1
      refine ZAE hdo (hg.agree agx.symm) (fun e=>by rw [hgt] at e; cases e) (fun _=>?_)
      rw [hu] at hK
      exact hK
     ·rename_i s
      split at hkept
      ·rename_i ad len cap hlook
       have hgt:g=true:=by
             cases g with
             | true=>rfl
             | false=>rw [hgu rfl] at hu; cases hu
       refine ZAE hdo (hg.agree agx.symm) (fun _=>?_) (fun e=>by rw [hgt] at e; cases e)
       unfold ZHY
       rw [hc]
       dsimp only
       have hlook':look A (put A env d2 e2) ox=.v (.slice ad len cap):=by
             have hm:ox∈x.op.operands:=by rw [hop]; simp [Op.operands]
             have:=(ZDF (env:=put A env d2 e2) hA (hsl d (.inl hds.symm)) u).1 ox hm
             rw [←this,←hds]; exact hlook
       obtain ⟨_,e',hu1,hu2,hu3⟩:=hcv hgt t1 t2 ox hop
       simp only [opR,hop,hu1,hu2,hu3,hlook']
       rw [hu] at hK
       cases ad with
       | none=>have:ByteArray.empty=s:=hkept; subst this; exact hK
       | some ad=>
         obtain ⟨xs,h1,h2,h3⟩:=hkept
         exact ⟨xs,h1,h2,by rw [h3]; exact hK⟩
      ·exact hkept.elim
     ·exact hkept.elim
    ·exact hkept.elim
   ·exact hkept.elim
  ·exact hkept.elim
 cases g with
 | false=>exact fin (.val undef) (h2 rfl) (fun e=>by cases e) (fun e=>by cases e) (fun _=>rfl)
 | true=>
   have hr:=h1 rfl
   unfold ZHY at hr
   rw [hc] at hr
   dsimp only at hr
   by_cases hload:∃ t ox,x.op=.load t ox
   ·obtain ⟨t,ox,hop⟩:=hload
    simp only [opR,hop] at hr
    split at hr
    ·rename_i c ad hcd hx
     cases hq:ZAn P c t with
     | false=>rw [hq] at hr; exact hr.elim
     | true=>
       rw [hq] at hr
       obtain ⟨y,_,hk⟩:=hr
       refine fin _ hk ?_ (fun _ s d ox' hop'=>by rw [hop] at hop'; cases hop') (fun e=>by cases e)
       intro _ t' ox' hop'
       rw [hop] at hop'
       cases hop'
       refine ⟨?_,fun c' hc'=>by rw [hcd] at hc'; cases hc'; exact hq⟩
       intro hu
       have hm:c.mem=true:=by
          simp only [ZAn,Bool.and_eq_true] at hq
          exact hq.1.1
       have hf:=c.form hm y
       have hu:c.enc y=undef:=by injection hu
       rw [hu] at hf
       split at hf
       ·obtain ⟨cs,h,_⟩:=hf; cases h
       ·cases hf.1
    ·exact hr.elim
   ·by_cases hconv:∃ s d ox,x.op=.convert s d ox
    ·obtain ⟨s,d,ox,hop⟩:=hconv
     simp only [opR,hop] at hr
     split at hr
     ·rename_i e ad len cap hs hd hx
      split at hr
      ·rename_i he
       have key:∀ st,(ZAN A P N ops y (put A env x.dst (.val (.string st))) h fun e2 h2=>ZJD A x e2 h2∧K e2 h2)→ZAN A P N ops y env h fun e1 h1=>ZAN A P N ops x e1 h1 K:=by
            intro st hk
            refine fin _ hk (fun _ t ox hop'=>by rw [hop] at hop'; cases hop') ?_ (fun e=>by cases e)
            intro _ s' d' ox' hop'
            rw [hop] at hop'; cases hop'
            exact ⟨by simp [undef],e,hs,hd,he⟩
       cases ad with
       | none=>exact key _ hr
       | some ad=>obtain ⟨xs,_,_,hk⟩:=hr; exact key _ hk
      ·exact hr.elim
     ·exact hr.elim
    ·obtain ⟨e,k1,_⟩:=ZL2 x _ _ _ hr
     exact fin e k1 (fun _ t ox hop=>absurd ⟨t,ox,hop⟩ hload) (fun _ s d ox hop=>absurd ⟨s,d,ox,hop⟩ hconv) (fun e=>by cases e)
end
def Hp.fin (h:Hp):Prop:=∃ n,∀ b,n≤b→h b=none
theorem Hp.fin_fresh {h:Hp} (f:h.fin):∃ b,h b=none:=by
 obtain ⟨n,hn⟩:=f
 exact ⟨n,hn n (Nat.le_refl _)⟩
theorem Hp.fin_upd {h:Hp} (f:h.fin) (b:Nat) (o:Obj):(h.upd b o).fin:=by
 obtain ⟨n,hn⟩:=f
 refine ⟨n+b+1,fun k hk=>?_⟩
 unfold Hp.upd
 rw [if_neg (by omega)]
 exact hn k (by omega)
theorem Hp.fin_le {h:Hp} {w:World} (l:h.le w):h.fin:=⟨w.heap.size,fun _ hb=>Hp.le_lt l hb⟩
theorem Hp.fin_wrs {h:Hp} (f:h.fin) (a:Addr) (vs:List Value) (i:Nat):(h.wrs a i vs).fin:=by
 obtain ⟨n,hn⟩:=f
 exact ⟨n,fun b hb=>(ZGn a vs i h b).2 (hn b hb)⟩
def ZLx (n:Nat) (h:Hp):World:={heap:=(List.range n).toArray.map fun i=>(h i).getD default,tape:=fun _ _=>0,drawn:=0,os:=default,output:=#[]}
theorem ZPS {n:Nat} {h:Hp} (hn:∀ b,n≤b→h b=none):h.le (ZLx n h):=by
 intro b o hb
 have hlt:b<n:=by
  rcases Nat.lt_or_ge b n with h'|h'
  ·exact h'
  ·rw [hn b h'] at hb; cases hb
 simp [ZLx,hlt,hb]
theorem Hp.upd_upd {h:Hp} {b c:Nat} (hne:b≠c) (o p:Obj):(h.upd b o).upd c p=(h.upd c p).upd b o:=by
 funext k
 unfold Hp.upd
 by_cases h1:k=c
 ·subst h1; rw [if_pos rfl,if_neg (Ne.symm hne),if_pos rfl]
 ·rw [if_neg h1]
  by_cases h2:k=b
  ·rw [if_pos h2,if_pos h2]
  ·rw [if_neg h2,if_neg h2,if_neg h1]
theorem Hp.upd_none {h:Hp} {b c:Nat} {o:Obj} (hb:(h.upd b o) c=none):c≠b∧h c=none:=by
 unfold Hp.upd at hb
 split at hb
 ·cases hb
 ·rename_i hne; exact ⟨hne,hb⟩
theorem Hp.upd_ne {h:Hp} {b c:Nat} {o:Obj} (hne:c≠b):(h.upd b o) c=h c:=by unfold Hp.upd; rw [if_neg hne]
theorem Hp.un_one {h:Hp} {b:Nat} (hb:h b=none) (o:Obj):h.un (Hp.one b o)=h.upd b o:=by
 funext k
 unfold Hp.un Hp.one Hp.upd
 by_cases hk:k=b
 ·subst hk; simp [hb]
 ·simp only [if_neg hk]; cases h k<;>rfl
theorem Hp.dj_one {h:Hp} {b:Nat} {o:Obj}:h.dj (Hp.one b o)↔h b=none:=by
 constructor
 ·intro d
  rcases d b with e|e
  ·exact e
  ·simp [Hp.one] at e
 ·intro hb k
  by_cases hk:k=b
  ·subst hk; exact .inl hb
  ·right; simp [Hp.one,hk]
section
variable {A:Ann} {P:Program} {N:Nat} {ops:Array Oper} {env:Env} {h:Hp} {K:Env→Hp→Prop}
theorem ZG4.wit {f:FuncId} {args:Array Value} {R:Value→Hp→Prop} (s:ZG4 P f args h R) (hf:h.fin):∃ v h',R v h':=by
 obtain ⟨n,hn⟩:=hf
 obtain ⟨e,w',_,⟨v,h',_,hR,_⟩,_⟩:=s (ZLx n h) Hp.emp (ZPS hn) (fun _ _ hk=>by cases hk) (fun _=>.inr rfl) []
 exact ⟨v,h',hR⟩
theorem ZG4.fin {f:FuncId} {args:Array Value} {R:Value→Hp→Prop} (s:ZG4 P f args h R):ZG4 P f args h fun v h'=>R v h'∧h'.fin:=fun w fr a b c=>
 (s w fr a b c).mono fun _ _ ⟨v,h',he,hR,rest⟩=>⟨v,h',he,⟨hR,Hp.fin_le rest.1⟩,rest⟩
theorem ZG4.upd {f:FuncId} {args:Array Value} {R:Value→Hp→Prop} (s:ZG4 P f args h R) {b:Nat} (hb:h b=none) (o:Obj):ZG4 P f args (h.upd b o) fun v h2=>∃ h1,h2=h1.upd b o∧h1 b=none∧R v h1:=by
 have:=s.frame (g:=Hp.one b o) (Hp.dj_one.2 hb)
 rw [Hp.un_one hb] at this
 refine this.mono fun v h' ⟨h1,hR,he,hd⟩=>⟨h1,?_,Hp.dj_one.1 hd,hR⟩
 rw [he,Hp.un_one (Hp.dj_one.1 hd)]
def ZPl (o:Oper):Bool:=
 match o.op with
 | .call c=>match c.callee with
   | .value _=>true
   | .builtin .append=>true
   | _=>false
 | _=>false
theorem ZQL {b:Nat} {o:Obj}:∀ (vs:List Value) (h:Hp) (a:Addr) (i:Nat),a.block≠b→(h.upd b o).wrs a i vs=(h.wrs a i vs).upd b o
 | [],_,_,_,_=>rfl
 | v::l,h,a,i,hne=>by
   have e:(h.upd b o).setCell (a.add i) v=(h.setCell (a.add i) v).upd b o:=by
    funext k
    unfold Hp.setCell Hp.upd
    rw [ZK7]
    by_cases h1:k=a.block
    ·subst h1; simp [hne]
    ·by_cases h2:k=b
     ·simp [h2,Ne.symm hne]
     ·simp [h1,h2]
   show ((h.upd b o).setCell (a.add i) v).wrs a (i+1) l=((h.setCell (a.add i) v).wrs a (i+1) l).upd b o
   rw [e]
   exact ZQL l _ a (i+1) hne
theorem ZDb {c:Cdc} {a:Option Addr} {n:Nat} {h h2:Hp} {K K':List c.T→Prop} (hs:h.sub h2) (hk:ZB6 c a n h K) (hKK:∀ xs,xs.length=n→K xs→K' xs):ZB6 c a n h2 K':=by
 cases a with
 | none=>exact ⟨hk.1,hKK _ hk.1.symm hk.2⟩
 | some a=>obtain ⟨xs,h1,h3,h4⟩:=hk; exact ⟨xs,h1,Hp.sub_rds hs h3,hKK _ h1 h4⟩
theorem ZIq {c:Cdc} {a:Option Addr} {n:Nat} {h:Hp} {K:List c.T→Prop} (hk:ZB6 c a n h K):∃ xs,xs.length=n∧K xs:=by
 cases a with
 | none=>exact ⟨[],hk.1.symm,hk.2⟩
 | some a=>obtain ⟨xs,h1,_,h4⟩:=hk; exact ⟨xs,h1,h4⟩
theorem ZWA {h:Hp} {b:Nat} {o:Obj} (hb:h b=none) {a:Addr} {n:Nat} (m:h.may a n):(h.upd b o).may a n:=by
 intro i hi
 obtain ⟨⟨v,hv⟩,hf⟩:=m i hi
 have hblk:=Hp.cell_block hv
 have hne:(a.add i).block≠b:=by rintro e; rw [e] at hblk; exact hblk hb
 refine ⟨⟨v,?_⟩,?_⟩
 ·unfold Hp.cell? at hv ⊢; rw [Hp.upd_ne hne]; exact hv
 ·unfold Hp.frozen? at hf ⊢; rw [Hp.upd_ne hne]; exact hf
theorem ZLn {c:Cdc} {e:TypeId} {bytes:Nat} {a:Option Addr} {len cap:Nat} {b:Option Addr} {n:Nat} {K:Option Addr→Nat→Nat→Hp→Prop} (hk:ZY c e bytes a len cap b n h K) (hf:h.fin):∃ a l c h',K a l c h':=by
 obtain ⟨ys,_,h1,h2⟩:=ZIq hk
 by_cases hc:len+n≤cap
 ·have:=h1 hc
  cases a with
  | none=>exact ⟨_,_,_,_,this⟩
  | some ad=>exact ⟨_,_,_,_,this.2⟩
 ·obtain ⟨_,h3⟩:=h2 (by omega)
  obtain ⟨xs,_,h4⟩:=ZIq h3
  obtain ⟨nb,hnb⟩:=Hp.fin_fresh hf
  exact ⟨_,_,_,_,h4 (len+n) [] (Nat.le_refl _) (by simp) nb hnb⟩
theorem ZKS {c:Cdc} {e:TypeId} {bytes:Nat} {a:Option Addr} {len cap:Nat} {b:Option Addr} {n:Nat} {K K':Option Addr→Nat→Nat→Hp→Prop} (hk:ZY c e bytes a len cap b n h K)
 (hf:h.fin) (hKK:∀ a l c h',h'.fin→K a l c h'→K' a l c h'):ZY c e bytes a len cap b n h K':=by
 refine ZDb (Hp.sub_refl h) hk fun ys _ ⟨h1,h2⟩=>⟨fun hc=>?_,fun hc=>?_⟩
 ·have:=h1 hc
  cases a with
  | none=>exact hKK _ _ _ _ hf this
  | some ad=>exact ⟨this.1,hKK _ _ _ _ (Hp.fin_wrs hf _ _ _) this.2⟩
 ·obtain ⟨h3,h4⟩:=h2 hc
  exact ⟨h3,ZDb (Hp.sub_refl h) h4 fun xs _ h5 nc pad h6 h7 nb hb=>hKK _ _ _ _ (Hp.fin_upd hf _ _) (h5 nc pad h6 h7 nb hb)⟩
theorem ZMW {c:Cdc} (hm:c.mem=true) {e:TypeId} {bytes:Nat} {a:Option Addr} {len cap:Nat} {b:Option Addr} {n:Nat} {K:Option Addr→Nat→Nat→Hp→Prop} (hk:ZY c e bytes a len cap b n h K) {q:Nat} (hq:h q=none) (o:Obj):
 ZY c e bytes a len cap b n (h.upd q o) fun a l c h2=>∃ h1,h2=h1.upd q o∧h1 q=none∧K a l c h1:=by
 refine ZDb (Hp.sub_upd hq o) hk fun ys hys ⟨h1,h2⟩=>⟨fun hc=>?_,fun hc=>?_⟩
 ·have:=h1 hc
  cases a with
  | none=>exact ⟨h,rfl,hq,this⟩
  | some ad=>
    refine ⟨ZWA hq this.1,_,?_,(ZGn _ _ _ _ _).2 hq,this.2⟩
    by_cases h0:ZG c ys=[]
    ·rw [h0]; rfl
    ·refine ZQL _ _ _ _ ?_
     have hlen:0<n*c.n:=by
      have:=Ze hm ys
      rw [hys] at this
      have h9:(ZG c ys).length≠0:=fun e=>h0 (List.length_eq_zero_iff.1 e)
      omega
     have:=ZDC this.1 hlen
     rintro e
     rw [e] at this
     exact this hq
 ·obtain ⟨h3,h4⟩:=h2 hc
  refine ⟨h3,ZDb (Hp.sub_upd hq o) h4 fun xs _ h5 nc pad h6 h7 nb hb=>?_⟩
  obtain ⟨hne,hnb⟩:=Hp.upd_none hb
  exact ⟨_,(Hp.upd_upd (Ne.symm hne) _ _),by rw [Hp.upd_ne (Ne.symm hne)]; exact hq,h5 nc pad h6 h7 nb hnb⟩
structure ZY5 (T:Hp→(EV→Hp→Prop)→Prop) (h:Hp):Prop where
 wit:∀ k,T h k→h.fin→∃ e h',k e h'
 fin:∀ k,T h k→h.fin→T h fun e h'=>h'.fin∧k e h'
 upd:∀ k,T h k→∀ b o,h b=none→T (h.upd b o) fun e h2=>∃ h1,h2=h1.upd b o∧h1 b=none∧k e h1
theorem ZEI (h:Hp):ZY5 (fun _ _=>False) h:=⟨fun _ e=>e.elim,fun _ e=>e.elim,fun _ e=>e.elim⟩
theorem ZE5 {g:FuncId} {args:List Value} {r:Cdc}:ZY5 (fun h k=>ZA P g args r h fun y h'=>k (.val (r.enc y)) h') h:=by
 refine ⟨fun k hk hf=>?_,fun k hk hf=>?_,fun k hk b o hb=>?_⟩
 ·obtain ⟨v,h',x,_,hx⟩:=ZG4.wit hk hf
  exact ⟨_,_,hx⟩
 ·exact (ZG4.fin hk).mono fun v h' ⟨⟨x,e,hx⟩,hf'⟩=>⟨x,e,hf',hx⟩
 ·exact (ZG4.upd hk hb o).mono fun v h2 ⟨h1,e,hn,x,ex,hx⟩=>⟨x,ex,h1,e,hn,hx⟩
theorem ZNF {g:FuncId} {args:List Value} {r:Cdc} {h h2:Hp} {K K':r.T→Prop} (hs:h.sub h2) (hk:ZNT P g args r h K) (hKK:∀ x,K x→K' x):ZNT P g args r h2 K':=by
 obtain ⟨x,hx,hk⟩:=hk
 exact ⟨x,fun w hw=>hx w fun b o hb=>hw b o (hs b o hb),hKK x hk⟩
theorem ZT6 {g:FuncId} {args:List Value} {r:Cdc}:ZY5 (fun h k=>ZNT P g args r h fun y=>k (.val (r.enc y)) h) h:=by
 refine ⟨fun k hk hf=>?_,fun k hk hf=>?_,fun k hk b o hb=>?_⟩
 ·obtain ⟨x,_,hx⟩:=hk
  exact ⟨_,_,hx⟩
 ·exact ZNF (Hp.sub_refl h) hk fun x hx=>⟨hf,hx⟩
 ·exact ZNF (Hp.sub_upd hb o) hk fun x hx=>⟨h,rfl,hb,hx⟩
theorem ZNx {o:Oper} (ht:ZPl o=true) (ρ:Operand→LV) (h:Hp):ZY5 (opW A P o ρ) h:=by
 obtain ⟨dst,op,type,pos,after,guard⟩:=o
 cases op<;>simp only [ZPl] at ht<;>try cases ht
 rename_i c
 obtain ⟨callee,args,ats⟩:=c
 cases callee with
 | value f=>
   have e:∀ h k,opW A P ⟨dst,.call ⟨.value f,args,ats⟩,type,pos,after,guard⟩ ρ h k=(match ZHw ρ args.toList with
    | some l=>(match ρ f with
      | .v (.func (.func g) first captured)=>match ZXg A f with
        | some r=>ZBL P g first captured l r h fun y h'=>k (.val (r.enc y)) h'
        | none=>match A.res g with
          | some r=>match P.funcs[g]? with
            | some fn=>match fn.body with
              | some _=>ZA P g (first.toList++(l++captured.toList)) r h fun y h'=>k (.val (r.enc y)) h'
              | none=>ZNT P g (first.toList++(l++captured.toList)) r h fun y=>k (.val (r.enc y)) h
            | none=>False
          | none=>False
      | _=>False)
    | none=>False):=by
    intro h k
    simp only [opW]
    cases ZHw ρ args.toList<;>rfl
   rw [show opW A P ⟨dst,.call ⟨.value f,args,ats⟩,type,pos,after,guard⟩ ρ=_ from funext fun h=>funext fun k=>e h k]
   split
   ·split
    ·split
     ·refine ⟨fun k hk hf=>ZE5.wit k hk.2 hf,fun k hk hf=>⟨hk.1,ZE5.fin k hk.2 hf⟩,fun k hk b o hb=>⟨hk.1,ZE5.upd k hk.2 b o hb⟩⟩
     ·split
      ·split
       ·split
        ·exact ZE5
        ·exact ZT6
       ·exact ZEI h
      ·exact ZEI h
    ·exact ZEI h
   ·exact ZEI h
 | invoke r m=>cases ht
 | builtin b=>
   cases b<;>simp only at ht<;>try cases ht
   refine ⟨fun k hk hf=>?_,fun k hk hf=>?_,fun k hk b o hb=>?_⟩
   all_goals
    simp only [opW] at hk ⊢
    split at hk
    ·rename_i hcal hl; cases hcal
    ·rename_i p len cap q n cap' hl
     split at hk
     ·split at hk
      ·split at hk
       ·rename_i cd hcd
        cases hq:(ZAn P cd _&&(Nat.ble 1 (ZAu P _)&&(Nat.ble (ZAu P _) 1048576&&ZDz P _))) with
        | false=>rw [hq] at hk; exact hk.elim
        | true=>
          rw [hq] at hk
          have hm:cd.mem=true:=by
               simp only [Bool.and_eq_true,ZAn] at hq
               exact hq.1.1.1
          simp only [cond_true] at hk ⊢
          first
               | (obtain ⟨a,l,c,h',hx⟩:=ZLn hk hf; exact ⟨_,_,hx⟩)
               | exact ZKS hk hf fun a l c h' hf' hx=>⟨hf',hx⟩
               | exact ZMW hm hk hb o
       ·exact hk.elim
      ·exact hk.elim
     ·exact hk.elim
    ·rename_i hcal hl; cases hcal
    ·rename_i hcal hl; cases hcal
    ·exact hk.elim
theorem ZW4 (o:Oper) (ρ:Operand→LV) (k:Obj→(Nat→Value)→Prop) (hk:opA P o ρ k):∃ ob f,∀ k',opA P o ρ k'↔k' ob f:=by
 obtain ⟨dst,op,type,pos,after,guard⟩:=o
 cases op
 case alloc e=>
  simp only [opA] at hk ⊢
  split at hk
  ·exact ⟨_,_,fun k'=>Iff.rfl⟩
  ·exact hk.elim
 case box e x=>
  simp only [opA] at hk ⊢
  split at hk
  ·exact ⟨_,_,fun k'=>Iff.rfl⟩
  ·exact hk.elim
 case buildSlice t n ps=>
  simp only [opA] at hk ⊢
  split at hk
  ·rename_i e l hu hl
   split at hk
   ·rename_i m z hm hz
    cases hq:Nat.ble (n*m) 16777216 with
    | false=>rw [hq] at hk; exact hk.elim
    | true=>
      rw [hq] at hk
      simp only [cond_true] at hk ⊢
      split at hk
      ·exact ⟨_,_,fun k'=>Iff.rfl⟩
      ·exact hk.elim
   ·exact hk.elim
  ·exact hk.elim
 case makeSlice t l c=>
  simp only [opA] at hk ⊢
  split at hk
  ·rename_i e kn n km m hu hl hc
   split at hk
   ·cases hq:ZDz P e with
    | false=>rw [hq] at hk; exact hk.elim
    | true=>
      rw [hq] at hk
      simp only [cond_true] at hk ⊢
      obtain ⟨h0,h1,h2,h3,hk⟩:=hk
      exact ⟨_,_,fun k'=>⟨fun h=>h.2.2.2.2,fun h=>⟨h0,h1,h2,h3,h⟩⟩⟩
   ·exact hk.elim
  ·exact hk.elim
 case makeChan t n=>
  simp only [opA] at hk ⊢
  split at hk
  ·split at hk
   ·obtain ⟨h0,h1,h2,hk⟩:=hk
    exact ⟨_,_,fun k'=>⟨fun h=>h.2.2.2,fun h=>⟨h0,h1,h2,h⟩⟩⟩
   ·exact hk.elim
  ·exact hk.elim
 case makeMap t r=>
  simp only [opA] at hk ⊢
  split at hk
  ·exact ⟨_,_,fun k'=>Iff.rfl⟩
  ·exact hk.elim
 all_goals exact hk.elim
def ZTV (A:Ann) (P:Program) (x y:Oper):Bool:=
 (x.guard.isNone&&y.guard.isNone)&&match cls A P x,cls A P y with
   | .a,.a=>true
   | .w,.a=>ZPl x
   | _,_=>false
theorem ZC6 {o:Oper} (hg:o.guard=none):ZAN A P N ops o env h K↔(ZFX N o=true∧ZHY A P o env h K):=by
 unfold ZAN
 rw [hg]
 cases ZFX N o with
 | false=>simp
 | true=>simp
theorem ZLo {o:Oper} (hg:o.guard=none) (hc:cls A P o=.a) (hk:ZAN A P N ops o env h K):∃ (ob:Obj) (f:Nat→Value),∀ (env2:Env) (h2:Hp) (K':Env→Hp→Prop),ZAs A ops o env env2→
 (ZAN A P N ops o env2 h2 K'↔∀ b,h2 b=none→K' (put A env2 o.dst (.val (f b))) (h2.upd b ob)):=by
 obtain ⟨h1,h2⟩:=(ZC6 hg).1 hk
 unfold ZHY at h2
 rw [hc] at h2
 dsimp only at h2
 obtain ⟨ob,f,hiff⟩:=ZW4 _ _ _ h2
 refine ⟨ob,f,fun env2 h2 K' ag=>?_⟩
 rw [ZC6 hg]
 unfold ZHY
 rw [hc]
 dsimp only
 rw [←ZKZ ag.1,hiff]
 exact ⟨fun h=>h.2,fun h=>⟨h1,h⟩⟩
theorem ZYt (hA:A.good) {x y:Oper} (hsw:ZTV A P x y=true) (hap:ZFA A ops x y=true) (hf:h.fin)
 (hk:ZAN A P N ops x env h fun e1 h1=>ZAN A P N ops y e1 h1 K):ZAN A P N ops y env h fun e1 h1=>ZAN A P N ops x e1 h1 K:=by
 unfold ZTV at hsw
 simp only [Bool.and_eq_true,Option.isNone_iff_eq_none] at hsw
 obtain ⟨⟨gx,gy⟩,hsw⟩:=hsw
 split at hsw
 ·rename_i hx hy
  obtain ⟨ox,fx,ix⟩:=ZLo gx hx hk
  rw [ix env h _ (ZAs.refl x env)] at hk
  obtain ⟨b0,hb0⟩:=Hp.fin_fresh hf
  obtain ⟨oy,fy,iy⟩:=ZLo gy hy (hk b0 hb0)
  have hag:∀ u,ZAs A ops y (put A env x.dst u) env:=fun u=>ZDO hA hap (.inl rfl) u
  have hag2:∀ u v,ZAs A ops y (put A env x.dst u) (put A env x.dst v):=fun u v=>⟨fun z hz=>((hag u).1 z hz).trans ((hag v).1 z hz).symm,fun s w hs=>((hag u).2 s w hs).trans ((hag v).2 s w hs).symm⟩
  rw [iy env h _ (hag _)]
  intro b hb
  have hagx:ZAs A ops x env (put A env y.dst (.val (fy b))):=(ZDJ hA hap (.inl rfl) _).symm
  rw [ix _ _ _ hagx]
  intro c hc
  obtain ⟨hne,hcn⟩:=Hp.upd_none hc
  have:=(iy _ _ _ (hag2 _ _)).1 (hk c hcn) b (by rw [Hp.upd_ne (Ne.symm hne)]; exact hb)
  rw [ZE9 hap (.inl rfl) (.inl rfl),Hp.upd_upd hne] at this
  exact this
 ·rename_i hx hy
  obtain ⟨hd,hr⟩:=(ZC6 gx).1 hk
  unfold ZHY at hr
  rw [hx] at hr
  dsimp only at hr
  have tm:=ZNx (A:=A) (P:=P) hsw (look A env) h
  obtain ⟨e0,h0,hy0⟩:=tm.wit _ hr hf
  obtain ⟨oy,fy,iy⟩:=ZLo gy hy hy0
  have hag:∀ u,ZAs A ops y (put A env x.dst u) env:=fun u=>ZDO hA hap (.inl rfl) u
  have hag2:∀ u v,ZAs A ops y (put A env x.dst u) (put A env x.dst v):=fun u v=>⟨fun z hz=>((hag u).1 z hz).trans ((hag v).1 z hz).symm,fun s w hs=>((hag u).2 s w hs).trans ((hag v).2 s w hs).symm⟩
  rw [iy env h _ (hag _)]
  intro b hb
  have hagx:ZAs A ops x env (put A env y.dst (.val (fy b))):=(ZDJ hA hap (.inl rfl) _).symm
  rw [ZC6 gx]
  refine ⟨hd,?_⟩
  unfold ZHY
  rw [hx]
  dsimp only
  rw [←ZKi hagx.1]
  refine ZMu _ _ _ _ _ ?_ (tm.upd _ hr b oy hb)
  rintro e h2 ⟨h1,rfl,hb1,hyy⟩
  have:=(iy _ _ _ (hag2 _ _)).1 hyy b hb1
  rw [ZE9 hap (.inl rfl) (.inl rfl)] at this
  exact this
 ·cases hsw
theorem ZHO {o:Oper} (hf:h.fin) (hc:cls A P o=.w→o.guard=none∧ZPl o=true) (hk:ZAN A P N ops o env h K):ZAN A P N ops o env h fun e h'=>h'.fin∧K e h':=by
 by_cases hw:cls A P o=.w
 ·obtain ⟨hg,ht⟩:=hc hw
  rw [ZC6 hg] at hk ⊢
  refine ⟨hk.1,?_⟩
  have hr:=hk.2
  unfold ZHY at hr ⊢
  rw [hw] at hr ⊢
  exact (ZNx (A:=A) (P:=P) ht (look A env) h).fin _ hr hf
 ·refine ZCZ hk (ZAs.refl o env) fun d _ e h' hrel hK=>⟨?_,hK⟩
  cases hcl:cls A P o with
  | p=>rw [hcl] at hrel; simp only [ZDP] at hrel; rw [hrel]; exact hf
  | c=>rw [hcl] at hrel; simp only [ZDP] at hrel; rw [hrel]; exact hf
  | r=>rw [hcl] at hrel; simp only [ZDP] at hrel; rw [hrel]; exact hf
  | a=>
    rw [hcl] at hrel
    rcases hrel with rfl|⟨b,ob,_,rfl⟩
    ·exact hf
    ·exact Hp.fin_upd hf b ob
  | w=>exact absurd hcl hw
end
inductive Dep (ops:Array Oper):Nat→Nat→Prop
 | edge {j:Nat} {o:Oper} {e:Edge} (ho:ops[j]?=some o) (he:e∈o.after) (hb:Region.binds .any e=true):Dep ops e.on j
 | trans {i k j:Nat} (h1:Dep ops i k) (h2:Dep ops k j):Dep ops i j
def ZL5 (acc:List Nat):List Edge→Nat
 | []=>0
 | e::l=>bif Region.binds .any e then (2 ^ e.on ||| (acc.getD e.on 0 ||| ZL5 acc l)) else ZL5 acc l
def ZZX:List Oper→List Nat→List Nat
 | [],acc=>acc
 | o::l,acc=>ZZX l (acc++[ZL5 acc o.after.toList])
theorem ZL1 {i j:Nat} (h:(2 ^ i).testBit j=true):i=j:=by
 rw [Nat.testBit_two_pow] at h
 simpa using h
theorem ZSH {ops:Array Oper} {acc:List Nat} (hacc:∀ j i,(acc.getD j 0).testBit i=true→Dep ops i j) {n:Nat} {o:Oper} (hn:ops[n]?=some o):
 ∀ l:List Edge,(∀ e∈l,e∈o.after)→∀ i,(ZL5 acc l).testBit i=true→Dep ops i n:=by
 intro l
 induction l with
 | nil=>intro _ i hi; simp [ZL5] at hi
 | cons e l ih=>
   intro hl i hi
   unfold ZL5 at hi
   cases hb:Region.binds .any e with
   | false=>rw [hb] at hi; exact ih (fun x hx=>hl x (List.mem_cons_of_mem _ hx)) i hi
   | true=>
     rw [hb] at hi
     simp only [cond_true,Nat.testBit_or,Bool.or_eq_true] at hi
     rcases hi with h|h|h
     ·rw [←ZL1 h]; exact .edge hn (hl e (by simp)) hb
     ·exact .trans (hacc _ _ h) (.edge hn (hl e (by simp)) hb)
     ·exact ih (fun x hx=>hl x (List.mem_cons_of_mem _ hx)) i h
theorem ZT2 {ops:Array Oper}:∀ (l:List Oper) (acc:List Nat),(∀ k o,l[k]?=some o→ops[acc.length+k]?=some o)→(∀ j i,(acc.getD j 0).testBit i=true→Dep ops i j)→
 ∀ j i,((ZZX l acc).getD j 0).testBit i=true→Dep ops i j:=by
 intro l
 induction l with
 | nil=>intro acc _ h; exact h
 | cons o l ih=>
   intro acc hl h
   refine ih (acc++[ZL5 acc o.after.toList]) ?_ ?_
   ·intro k o' hk
    have:=hl (k+1) o' (by simpa using hk)
    simp only [List.length_append,List.length_cons,List.length_nil,Nat.zero_add]
    rw [show acc.length+1+k=acc.length+(k+1) by omega]; exact this
   ·intro j i hi
    by_cases h1:j<acc.length
    ·rw [List.getD_eq_getElem?_getD,List.getElem?_append_left h1,←List.getD_eq_getElem?_getD] at hi
     exact h j i hi
    ·by_cases h2:j=acc.length
     ·subst h2
      simp [List.getD_eq_getElem?_getD] at hi
      exact ZSH (n:=acc.length) (o:=o) h (by simpa using hl 0 o rfl) o.after.toList (fun e he=>by simpa using he) i (by simpa using hi)
     ·rw [List.getD_eq_getElem?_getD,List.getElem?_eq_none (by simp; omega)] at hi
      simp at hi
abbrev Seq:=List (Nat×List Nat)
section
variable {A:Ann} {P:Program} {N:Nat} {ops:Array Oper}
def ZZP (A:Ann) (ops:Array Oper) (x:Oper):Bool:=(ZAo A x).all fun d=>!(ZC8 A ops x).contains d
def isR (cl:Cls):Bool:=match cl with|.r=>true|_=>false
def ZPE (A:Ann) (P:Program) (ops:Array Oper) (i:Nat) (ki:List Nat) (j:Nat) (ks:List Nat):Bool:=
 match ops[i]?,ops[j]? with
 | some x,some y=>ki.isEmpty&&(ZFA A ops x y&&(ZRu (cls A P x) (cls A P y)||((isR (cls A P x)&&(ks.contains i&&ZZP A ops x))||(ks.isEmpty&&ZTV A P x y))))
 | _,_=>false
def ZMG (A:Ann) (ops:Array Oper) (i k:Nat):Bool:=
 match ops[i]?,ops[k]? with
 | some x,some z=>(ZAo A x).all fun d=>!(ZC8 A ops z).contains d&&(ZAo A z).all fun e=>ZBE A d e
 | _,_=>false
def ZZh (bef:List Nat) (i j:Nat):Bool:=(bef.getD j 0).testBit i
def ZNp (A:Ann) (P:Program) (ops:Array Oper) (bef:List Nat) (j:Nat) (ks:List Nat):Seq→Bool
 | []=>true
 | (i,ki)::m=>(ZZh bef i j||ZPE A P ops i ki j ks)&&((!ks.contains i||m.all fun q=>ZMG A ops q.1 i||ZZh bef q.1 j)&&ZNp A P ops bef j ks m)
def ZNe (A:Ann) (P:Program) (ops:Array Oper) (bef:List Nat):Seq→Seq→Bool
 | _,[]=>true
 | pre,(j,ks)::l=>(match ops[j]? with
    | some o=>o.after.toList.all fun e=>!Region.binds .any e||pre.any fun q=>Nat.beq q.1 e.on
    | none=>false)&&(!(pre.any fun q=>Nat.beq q.1 j)&&(ZNp A P ops bef j ks pre&&ZNe A P ops bef (pre++[(j,ks)]) l))
def ZGB (A:Ann) (P:Program) (ops:Array Oper) (seq:Seq):Bool:=
 Nat.beq seq.length ops.size&&ZNe A P ops (ZZX ops.toList []) [] seq
structure ZWf (A:Ann) (P:Program) (ops:Array Oper) (L:Seq):Prop where
 nd:(L.map Prod.fst).Nodup
 pair2:∀ p q,List.Sublist [p,q] L→Dep ops p.1 q.1∨ZPE A P ops p.1 p.2 q.1 q.2=true
 pair3:∀ p q r,List.Sublist [p,q,r] L→p.1∈r.2→ZMG A ops q.1 p.1=true∨Dep ops q.1 r.1
theorem ZMJ {bef:List Nat} (hb:∀ j i,(bef.getD j 0).testBit i=true→Dep ops i j) {j:Nat} {ks:List Nat}:∀ {m:Seq},ZNp A P ops bef j ks m=true→
 (∀ p∈m,Dep ops p.1 j∨ZPE A P ops p.1 p.2 j ks=true)∧(∀ p q,List.Sublist [p,q] m→p.1∈ks→ZMG A ops q.1 p.1=true∨Dep ops q.1 j):=by
 intro m
 induction m with
 | nil=>intro _; exact ⟨fun p hp=>(by cases hp),fun p q h=>(by cases h)⟩
 | cons x m ih=>
   intro h
   obtain ⟨i,ki⟩:=x
   simp only [ZNp,Bool.and_eq_true] at h
   obtain ⟨h1,h2,h3⟩:=h
   obtain ⟨g1,g2⟩:=ih h3
   constructor
   ·intro p hp
    rcases List.mem_cons.1 hp with rfl|hp
    ·rw [Bool.or_eq_true] at h1
     exact h1.imp (hb _ _) id
    ·exact g1 p hp
   ·intro p q hs hk
    cases hs with
    | cons _ hs=>exact g2 p q hs hk
    | cons_cons _ hs=>
      have hq:q∈m:=List.singleton_sublist.1 hs
      simp only [Bool.or_eq_true,Bool.not_eq_true',List.contains_eq_mem,decide_eq_false_iff_not,List.all_eq_true] at h2
      rcases h2 with h2|h2
      ·exact absurd hk h2
      ·exact (h2 q hq).imp id (hb _ _)
theorem ZMQ {bef:List Nat} (hb:∀ j i,(bef.getD j 0).testBit i=true→Dep ops i j):∀ (l pre:Seq),ZNe A P ops bef pre l=true→ZWf A P ops pre→
 (∀ q∈pre,q.1<ops.size)→(∀ q∈pre,∀ o,ops[q.1]?=some o→∀ e∈o.after,Region.binds .any e=true→∃ p,p.1=e.on∧List.Sublist [p,q] pre)→
 ZWf A P ops (pre++l)∧(∀ q∈pre++l,q.1<ops.size)∧(∀ q∈pre++l,∀ o,ops[q.1]?=some o→∀ e∈o.after,Region.binds .any e=true→∃ p,p.1=e.on∧List.Sublist [p,q] (pre++l)):=by
 intro l
 induction l with
 | nil=>intro pre _ h1 h2 h3; rw [List.append_nil]; exact ⟨h1,h2,h3⟩
 | cons y l ih=>
   intro pre h h1 h2 h3
   obtain ⟨j,ks⟩:=y
   simp only [ZNe,Bool.and_eq_true] at h
   obtain ⟨he,hn,hp,hl⟩:=h
   cases ho:ops[j]? with
   | none=>rw [ho] at he; cases he
   | some o=>
     rw [ho] at he
     simp only [List.all_eq_true,Bool.or_eq_true,Bool.not_eq_true',List.any_eq_true,ZFC] at he
     obtain ⟨p1,p2⟩:=ZMJ (A:=A) (P:=P) hb hp
     have hnot:∀ q∈pre,q.1≠j:=by
      intro q hq e
      have:pre.any (fun q=>Nat.beq q.1 j)=true:=List.any_eq_true.2 ⟨q,hq,ZFC.2 e⟩
      rw [this] at hn; cases hn
     have hlt:j<ops.size:=(Array.getElem?_eq_some_iff.1 ho).1
     have:=ih (pre++[(j,ks)]) hl ⟨?_,?_,?_⟩ ?_ ?_
     ·rw [List.append_assoc] at this; exact this
     ·rw [List.map_append,List.nodup_append]
      refine ⟨h1.nd,by simp,?_⟩
      intro a ha b hb' e
      simp only [List.map_cons,List.map_nil,List.mem_singleton] at hb'
      obtain ⟨q,hq,rfl⟩:=List.mem_map.1 ha
      exact hnot q hq (e.trans hb')
     ·intro p q hs
      obtain ⟨a,b,e,ha,hb'⟩:=List.sublist_append_iff.1 hs
      match a,e with
      | [],e=>simp at e; subst e; have:=hb'.length_le; simp at this
      | [x],e=>
        simp at e
        obtain ⟨rfl,rfl⟩:=e
        have hq:=List.singleton_sublist.1 hb'
        simp only [List.mem_singleton] at hq
        subst hq
        exact p1 p (List.singleton_sublist.1 ha)
      | [x,y],e=>simp at e; obtain ⟨rfl,rfl,_⟩:=e; exact h1.pair2 _ _ ha
      | x::y::z::a,e=>simp at e
     ·intro p q r hs hk
      obtain ⟨a,b,e,ha,hb'⟩:=List.sublist_append_iff.1 hs
      match a,e with
      | [],e=>simp at e; subst e; have:=hb'.length_le; simp at this
      | [x],e=>simp at e; obtain ⟨rfl,rfl⟩:=e; have:=hb'.length_le; simp at this
      | [x,y],e=>
        simp at e
        obtain ⟨rfl,rfl,rfl⟩:=e
        have hq:=List.singleton_sublist.1 hb'
        simp only [List.mem_singleton] at hq
        subst hq
        exact p2 _ _ ha hk
      | [x,y,z],e=>simp at e; obtain ⟨rfl,rfl,rfl,_⟩:=e; exact h1.pair3 _ _ _ ha hk
      | x::y::z::u::a,e=>simp at e
     ·intro q hq
      rcases List.mem_append.1 hq with hq|hq
      ·exact h2 q hq
      ·simp only [List.mem_singleton] at hq; subst hq; exact hlt
     ·intro q hq o' ho' e he' hbnd
      rcases List.mem_append.1 hq with hq|hq
      ·obtain ⟨p,hp1,hp2⟩:=h3 q hq o' ho' e he' hbnd
       exact ⟨p,hp1,hp2.trans (List.sublist_append_left _ _)⟩
      ·simp only [List.mem_singleton] at hq
       subst hq
       rw [ho] at ho'
       cases ho'
       rcases he e (by simpa using he') with h|⟨p,hp1,hp2⟩
       ·rw [hbnd] at h; cases h
       ·exact ⟨p,hp2,List.Sublist.append (List.singleton_sublist.2 hp1) (List.Sublist.refl [(j,ks)])⟩
theorem ZCf {i:Nat} {ks:List Nat} {l:Seq} {env:Env} {h:Hp} {K:Env→Hp→Prop}:
 ZH4 A P N ops ((i,ks)::l) env h K↔∃ o,ops[i]?=some o∧ZAN A P N ops o env h fun e h=>ZCA A ops e h ks∧ZH4 A P N ops l e h K:=by
 cases ks with
 | nil=>
   simp only [ZH4]
   cases ho:ops[i]? with
   | none=>simp
   | some o=>
     simp only [Option.some.injEq,exists_eq_left',ZCA]
     exact ⟨fun hk=>Z4 hk fun _ _ h=>⟨trivial,h⟩,fun hk=>Z4 hk fun _ _ h=>h.2⟩
 | cons k ks=>
   simp only [ZH4]
   cases ho:ops[i]? with
   | none=>simp
   | some o=>simp
theorem ZHW {l:Seq}:∀ {env:Env} {h:Hp} {K K':Env→Hp→Prop},(∀ e h,K e h→K' e h)→ZH4 A P N ops l env h K→ZH4 A P N ops l env h K':=by
 induction l with
 | nil=>intro env h K K' hK hk; exact hK _ _ hk
 | cons y l ih=>
   intro env h K K' hK hk
   obtain ⟨i,ks⟩:=y
   rw [ZCf] at hk ⊢
   obtain ⟨o,ho,hk⟩:=hk
   exact ⟨o,ho,Z4 hk fun e h' ⟨h1,h2⟩=>⟨h1,ih hK h2⟩⟩
theorem ZMU {env:Env} {h:Hp}:∀ {ks S:List Nat},(∀ i∈S,i∈ks)→ZCA A ops env h ks→ZCA A ops env h S:=by
 intro ks S hs hk
 have all:∀ {l:List Nat},ZCA A ops env h l→∀ i∈l,(match ops[i]? with|some o=>ZJD A o env h|none=>False):=by
  intro l
  induction l with
  | nil=>intro _ i hi; cases hi
  | cons x l ih=>
    intro hk i hi
    rcases List.mem_cons.1 hi with rfl|hi
    ·exact hk.1
    ·exact ih hk.2 i hi
 induction S with
 | nil=>trivial
 | cons x S ih=>exact ⟨all hk x (hs x (by simp)),ih fun i hi=>hs i (List.mem_cons_of_mem _ hi)⟩
theorem ZSG (hA:A.good) {z:Oper} {env:Env} {h:Hp} {d:Option Tmp} {u:EV} (hd:∀ k,d=some k→k∉ZC8 A ops z∧∀ e∈ZAo A z,ZBE A k e=true)
 (hk:ZJD A z (put A env d u) h):ZJD A z env h:=by
 cases d with
 | none=>exact hk
 | some d=>
   obtain ⟨h1,h2⟩:=hd d rfl
   unfold ZJD at hk ⊢
   split at hk
   ·rename_i t x hop
    have hl:look A (put A env (some d) u) x=look A env x:=(ZDF (ops:=ops) hA h1 u).1 x (by rw [hop]; simp [Op.operands])
    split at hk
    ·rename_i e hds
     have:=h2 e (by unfold ZAo; simp [hds])
     obtain ⟨n1,n2,n3⟩:=ZCu.1 this
     have he:put A env (some d) u e=env e:=by
      rcases ZBX (A:=A) (env:=env) u (Ne.symm n1) with h|⟨_,_,h4⟩
      ·exact h
      ·exact absurd h4 n3
     rw [he,hl] at hk
     exact hk
    ·exact hk.elim
   ·rename_i t1 t2 x hop
    have hl:look A (put A env (some d) u) x=look A env x:=(ZDF (ops:=ops) hA h1 u).1 x (by rw [hop]; simp [Op.operands])
    split at hk
    ·rename_i e hds
     have:=h2 e (by unfold ZAo; simp [hds])
     obtain ⟨n1,n2,n3⟩:=ZCu.1 this
     have he:put A env (some d) u e=env e:=by
      rcases ZBX (A:=A) (env:=env) u (Ne.symm n1) with h|⟨_,_,h4⟩
      ·exact h
      ·exact absurd h4 n3
     rw [he,hl] at hk
     exact hk
    ·exact hk.elim
   ·exact hk.elim
theorem ZMB (hA:A.good) {x:Oper} {env:Env} {h:Hp} {d:Option Tmp} {u:EV} (hdx:d=x.dst∨d=ZAr A x):∀ {S:List Nat},
 (∀ k∈S,∀ z,ops[k]?=some z→∀ d∈ZAo A x,d∉ZC8 A ops z∧∀ e∈ZAo A z,ZBE A d e=true)→ZCA A ops (put A env d u) h S→ZCA A ops env h S:=by
 intro S
 induction S with
 | nil=>intro _ _; trivial
 | cons k S ih=>
   intro hS hk
   refine ⟨?_,ih (fun k hk=>hS k (List.mem_cons_of_mem _ hk)) hk.2⟩
   have:=hk.1
   cases hz:ops[k]? with
   | none=>rw [hz] at this; exact this
   | some z=>
     rw [hz] at this
     refine ZSG (ops:=ops) hA (fun k' hk'=>?_) this
     subst hk'
     exact hS k (by simp) z hz k' (ZCQ hdx)
theorem ZYC (hA:A.good) {j:Nat} {ks:List Nat} {y:Oper} (hy:ops[j]?=some y) {l2:Seq}:∀ (l1:Seq) (S:List Nat) (env:Env) (h:Hp) (K:Env→Hp→Prop),h.fin→
 (∀ p∈l1,ZPE A P ops p.1 p.2 j ks=true)→(∀ k∈S,k∈ks)→(∀ k∈S,∀ p∈l1,ZMG A ops p.1 k=true)→
 (∀ p q,List.Sublist [p,q] l1→p.1∈ks→ZMG A ops q.1 p.1=true)→
 ZH4 A P N ops (l1++(j,ks)::l2) env h K→ZAN A P N ops y env h fun e h=>ZCA A ops e h S∧ZH4 A P N ops (l1++l2) e h K:=by
 intro l1
 induction l1 with
 | nil=>
   intro S env h K _ _ hS _ _ hk
   rw [List.nil_append,ZCf] at hk
   obtain ⟨o,ho,hk⟩:=hk
   rw [hy] at ho; cases ho
   exact Z4 hk fun e h ⟨h1,h2⟩=>⟨ZMU hS h1,h2⟩
 | cons p l1 ih=>
   intro S env h K hf hp hS hkeep h3 hk
   obtain ⟨i,ki⟩:=p
   rw [List.cons_append,ZCf] at hk
   obtain ⟨x,hx,hk⟩:=hk
   have hpair:=hp (i,ki) (by simp)
   unfold ZPE at hpair
   dsimp only at hpair
   rw [hx,hy] at hpair
   simp only [Bool.and_eq_true,Bool.or_eq_true,List.isEmpty_iff] at hpair
   obtain ⟨hki,hap,hcase⟩:=hpair
   subst hki
   have hkS:∀ k∈S,∀ z,ops[k]?=some z→∀ d∈ZAo A x,d∉ZC8 A ops z∧∀ e∈ZAo A z,ZBE A d e=true:=by
    intro k hkS z hz d hd
    have:=hkeep k hkS (i,[]) (by simp)
    unfold ZMG at this
    dsimp only at this
    rw [hx,hz] at this
    simp only [List.all_eq_true,Bool.and_eq_true,Bool.not_eq_true',List.contains_eq_mem,decide_eq_false_iff_not] at this
    exact this d hd
   have rest:∀ q∈l1,ZPE A P ops q.1 q.2 j ks=true:=fun q hq=>hp q (List.mem_cons_of_mem _ hq)
   have h3':∀ p q,List.Sublist [p,q] l1→p.1∈ks→ZMG A ops q.1 p.1=true:=fun p q hs=>h3 p q (hs.cons _)
   -- the end: what is kept stays said ahead of x
   have fin:ZTW (cls A P x)=true→ZAN A P N ops y env h (fun e2 h2=>ZAN A P N ops x e2 h2 fun e3 h3=>ZCA A ops e3 h3 S∧ZH4 A P N ops (l1++l2) e3 h3 K)→
    ZAN A P N ops y env h fun e h=>ZCA A ops e h S∧ZH4 A P N ops ((i,[])::l1++l2) e h K:=by
    intro hlin hk
    refine Z4 hk fun e2 h2 hk=>⟨?_,?_⟩
    ·obtain ⟨d,u,hd,⟨hkk,_⟩,_⟩:=ZKl hlin hk
     exact ZMB hA hd hkS hkk
    ·rw [List.cons_append,ZCf]
     exact ⟨x,hx,Z4 hk fun e3 h3 ⟨_,hk⟩=>⟨trivial,hk⟩⟩
   rcases hcase with hsw|⟨hr,hin,hself⟩|⟨hks,hsw⟩
   ·have hlin:ZTW (cls A P x)=true:=by
     cases hc:cls A P x<;>rw [hc] at hsw<;>first|rfl|cases hsw
    have hk':=Z4 (ZHO hf (fun hw=>by rw [hw] at hlin; cases hlin) hk) fun e1 h1 ⟨hf1,_,hk⟩=>ih S e1 h1 K hf1 rest hS (fun k hk q hq=>hkeep k hk q (List.mem_cons_of_mem _ hq)) h3' hk
    exact fin hlin (swap hA hsw hap hk')
   ·have hc:cls A P x=.r:=by
     cases hc:cls A P x<;>rw [hc] at hr<;>first|rfl|cases hr
    have hin:i∈ks:=by simpa using hin
    have hk':=Z4 (ZHO hf (fun hw=>by rw [hw] at hc; cases hc) hk) fun e1 h1 ⟨hf1,_,hk⟩=>ih (i::S) e1 h1 K hf1 rest
     (fun k hk=>by
       rcases List.mem_cons.1 hk with rfl|hk
       ·exact hin
       ·exact hS k hk)
     (fun k hk q hq=>by
       rcases List.mem_cons.1 hk with rfl|hk
       ·exact h3 (k,[]) q (List.Sublist.cons_cons _ (List.singleton_sublist.2 hq)) hin
       ·exact hkeep k hk q (List.mem_cons_of_mem _ hq)) h3' hk
    refine fin (by rw [hc]; rfl) (ZS3 hA hc hap hself (Z4 hk' fun e1 h1 hk=>Z4 hk fun e2 h2 ⟨hkk,hk⟩=>?_))
    have hkx:=hkk.1
    rw [hx] at hkx
    exact ⟨hkx,hkk.2,hk⟩
   ·skip
    have hS0:S=[]:=by
     cases S with
     | nil=>rfl
     | cons k S=>have:=hS k (by simp); rw [hks] at this; cases this
    subst hS0
    have hgw:cls A P x=.w→x.guard=none∧ZPl x=true:=by
     intro hw
     unfold ZTV at hsw
     rw [hw] at hsw
     simp only [Bool.and_eq_true,Option.isNone_iff_eq_none] at hsw
     refine ⟨hsw.1.1,?_⟩
     have h2:=hsw.2
     split at h2
     ·rename_i e _; cases e
     ·exact h2
     ·cases h2
    have hk':=Z4 (ZHO hf hgw hk) fun e1 h1 ⟨hf1,_,hk⟩=>ih [] e1 h1 K hf1 rest (fun k hk=>by cases hk) (fun k hk=>by cases hk) h3' hk
    refine Z4 (ZYt hA hsw hap hf hk') fun e2 h2 hk=>⟨trivial,?_⟩
    rw [List.cons_append,ZCf]
    exact ⟨x,hx,Z4 hk fun e3 h3 ⟨_,hk⟩=>⟨trivial,hk⟩⟩
def ZGR (P:Program) (ops:Array Oper) (l:List Nat) (a:Act) (w:World) (K:Act→World→Prop):Prop:=
 ∀ (b:Frame) (k:List Item) (cs:List Frame),∃ a' w',K a' w'∧Steps P (lone (b.at a (.inRegion ops l::k)) cs w) (lone (b.at a' k) cs w')
theorem ZFl {a:Act} {w:World} {K:Act→World→Prop} (hk:K a w):ZGR P ops [] a w K:=
 fun _ _ _=>⟨a,w,hk,.one step_region_end⟩
theorem ZGs {i:Nat} {l:List Nat} {a:Act} {w:World} {K:Act→World→Prop} (h:ZSv P ops i a w fun a' w'=>ZGR P ops l a' w' K):ZGR P ops (i::l) a w K:=by
 intro b k cs
 obtain ⟨a',w',h1,s1⟩:=h b l k cs
 obtain ⟨a'',w'',h2,s2⟩:=h1 b k cs
 exact ⟨a'',w'',h2,s1.trans s2⟩
theorem ZSv.mono {i:Nat} {a:Act} {w:World} {K K':Act→World→Prop} (hK:∀ a w,K a w→K' a w) (h:ZSv P ops i a w K):ZSv P ops i a w K':=by
 intro b rest k cs
 obtain ⟨a',w',h1,s1⟩:=h b rest k cs
 exact ⟨a',w',hK _ _ h1,s1⟩
theorem ZLD (hP:ZGb P A) {fr:Hp} {w0:World}:∀ (l:Seq) {bx:Nat→Nat} {env:Env} {a:Act} {h:Hp} {w:World} {K:Env→Hp→Prop},
 Rel A N bx env a h fr w0 w→ZH4 A P N ops l env h K→ZGR P ops (l.map Prod.fst) a w (St A N fr w0 K):=by
 intro l
 induction l with
 | nil=>intro bx env a h w K R hk; exact ZFl ⟨_,_,_,R,hk⟩
 | cons y l ih=>
   intro bx env a h w K R hk
   obtain ⟨i,ks⟩:=y
   rw [ZCf] at hk
   obtain ⟨o,ho,hk⟩:=hk
   refine ZGs ((ZEF hP R ho hk).mono ?_)
   rintro a' w' ⟨bx',env',h',R',_,hk'⟩
   exact ih R' hk'
theorem ZGU {L:Seq} (hn:(L.map Prod.fst).Nodup) {i:Nat} (hi:i∈L.map Prod.fst):∃ l1 ks l2,L=l1++(i,ks)::l2∧L.filter (fun p=>p.1 != i)=l1++l2:=by
 obtain ⟨⟨j,ks⟩,hq,rfl⟩:=List.mem_map.1 hi
 obtain ⟨l1,l2,rfl⟩:=List.append_of_mem hq
 refine ⟨l1,ks,l2,rfl,?_⟩
 rw [List.map_append,List.map_cons,List.nodup_append] at hn
 obtain ⟨h1,h2,h3⟩:=hn
 rw [List.nodup_cons] at h2
 have e1:l1.filter (fun p=>p.1 != j)=l1:=List.filter_eq_self.2 fun p hp=>by
  have:=h3 p.1 (List.mem_map.2 ⟨p,hp,rfl⟩) j (by simp)
  simpa using this
 have e2:l2.filter (fun p=>p.1 != j)=l2:=List.filter_eq_self.2 fun p hp=>by
  have:p.1≠j:=by rintro e; exact h2.1 (List.mem_map.2 ⟨p,hp,e⟩)
  simpa using this
 rw [List.filter_append,List.filter_cons]
 simp [e1,e2]
theorem ZQ5 (hP:ZGb P A) {fr:Hp} {w0:World}:∀ (fuel t:Nat) (listed:Array Bool) (rem:Seq) {bx:Nat→Nat} {env:Env} {a:Act} {h:Hp} {w:World} {K:Env→Hp→Prop},
 Rel A N bx env a h fr w0 w→ZWf A P ops rem→listed.size=ops.size→rem.length≤fuel→
 (∀ j,j∈rem.map Prod.fst↔j<ops.size∧listed.getD j true=false)→
 (∀ i j,Dep ops i j→listed.getD j false=true→listed.getD i false=true)→
 (∀ q∈rem,∀ o,ops[q.1]?=some o→∀ e∈o.after,Region.binds .any e=true→listed.getD e.on false=true∨∃ p,p.1=e.on∧List.Sublist [p,q] rem)→
 ZH4 A P N ops rem env h K→ZGR P ops (Region.linearise.go .any ops fuel t listed []) a w (St A N fr w0 K):=by
 intro fuel
 induction fuel with
 | zero=>
   intro t listed rem bx env a h w K R hok hsz hlen hmem hcl hed hk
   have:rem=[]:=List.eq_nil_of_length_eq_zero (by omega)
   subst this
   simp only [Region.linearise.go,List.reverse_nil]
   exact ZFl ⟨_,_,_,R,hk⟩
 | succ fuel ih=>
   intro t listed rem bx env a h w K R hok hsz hlen hmem hcl hed hk
   simp only [Region.linearise.go]
   change ZGR P ops (match (Region.ready .any ops listed)[t % (Region.ready .any ops listed).length]? with
    | some i=>Region.linearise.go .any ops fuel (t / (Region.ready .any ops listed).length) (listed.setIfInBounds i true) [i]
    | none=>[].reverse) a w (St A N fr w0 K)
   cases hi:(Region.ready .any ops listed)[t % (Region.ready .any ops listed).length]? with
   | none=>
     have hnil:Region.ready .any ops listed=[]:=by
      cases hr:Region.ready .any ops listed with
      | nil=>rfl
      | cons x xs=>
        rw [hr] at hi
        have hlt:t % (x::xs).length<(x::xs).length:=Nat.mod_lt _ (by simp)
        simp at hi
        simp at hlt
        omega
     have:rem=[]:=by
      cases rem with
      | nil=>rfl
      | cons q l=>
        exfalso
        obtain ⟨h1,h2⟩:=(hmem q.1).1 (by simp)
        have:q.1∈Region.ready .any ops listed:=by
         rw [mem_ready]
         refine ⟨h2,ops[q.1],by simp [h1],fun e he hb=>?_⟩
         rcases hed q (by simp) ops[q.1] (by simp [h1]) e he hb with h|⟨p,hp,hs⟩
         ·exact h
         ·exfalso
          have hnd:=hok.nd
          rw [List.map_cons,List.nodup_cons] at hnd
          cases hs with
          | cons _ hs=>
            exact hnd.1 (List.mem_map.2 ⟨q,hs.subset (by simp),rfl⟩)
          | cons_cons _ hs=>exact hnd.1 (List.mem_map.2 ⟨q,hs.subset (by simp),rfl⟩)
        rw [hnil] at this; cases this
     subst this
     exact ZFl ⟨_,_,_,R,hk⟩
   | some i=>
     simp only []
     have hir:=List.mem_of_getElem? hi
     obtain ⟨hun,o,ho,hall⟩:=mem_ready.1 hir
     have hilt:i<ops.size:=(Array.getElem?_eq_some_iff.1 ho).1
     have him:i∈rem.map Prod.fst:=(hmem i).2 ⟨hilt,hun⟩
     obtain ⟨l1,ks,l2,hrem,hfil⟩:=ZGU hok.nd him
     rw [linearise_go_acc,List.reverse_singleton,List.singleton_append]
     refine ZGs ?_
     -- nothing ahead of i in the order must come up before it
     have hnodep:∀ p,List.Sublist [p,(i,ks)] rem→¬Dep ops p.1 i:=by
      intro p hs hd
      have hp:p.1∈rem.map Prod.fst:=List.mem_map.2 ⟨p,hs.subset (by simp),rfl⟩
      have hpu:=((hmem p.1).1 hp)
      have:listed.getD p.1 false=true:=by
       clear hs hp
       have key:∀ x y,Dep ops x y→y=i→listed.getD x false=true:=by
        intro x y hd
        induction hd with
        | edge ho' he hb=>
          rintro rfl
          rw [ho] at ho'; cases ho'
          exact hall _ he hb
        | trans h1 h2 ih1 ih2=>
          rintro rfl
          exact hcl _ _ h1 (ih2 rfl)
       exact key _ _ hd rfl
      have h3:=hpu.2
      simp only [Array.getD,hsz,hpu.1,dif_pos] at this h3
      rw [this] at h3; cases h3
     have sub1:∀ p∈l1,List.Sublist [p,(i,ks)] rem:=by
      intro p hp
      rw [hrem]
      exact List.Sublist.append (List.singleton_sublist.2 hp) (List.singleton_sublist.2 (by simp))
     have hb:=ZYC (N:=N) hP.good (j:=i) (ks:=ks) ho (l2:=l2) l1 [] env h K (Hp.fin_le R.hle)
      (fun p hp=>(hok.pair2 p (i,ks) (sub1 p hp)).resolve_left (hnodep p (sub1 p hp))) (fun k hk=>by cases hk) (fun k hk=>by cases hk)
      (fun p q hs hk=>by
        have hs3:List.Sublist [p,q,(i,ks)] rem:=by
         rw [hrem]; exact List.Sublist.append hs (List.singleton_sublist.2 (by simp))
        refine (hok.pair3 p q (i,ks) hs3 hk).resolve_right (hnodep q (sub1 q (hs.subset (by simp)))))
      (by rw [←hrem]; exact hk)
     refine (ZEF hP R ho hb).mono ?_
     rintro a' w' ⟨bx',env',h',R',_,hk'⟩
     rw [←hfil] at hk'
     have hsub:List.Sublist (rem.filter fun p=>p.1 != i) rem:=List.filter_sublist
     refine ih _ _ (rem.filter fun p=>p.1 != i) R' ⟨?_,?_,?_⟩ (by simpa using hsz) ?_ ?_ ?_ ?_ hk'
     ·exact hok.nd.sublist (hsub.map _)
     ·exact fun p q hs=>hok.pair2 p q (hs.trans hsub)
     ·exact fun p q r hs=>hok.pair3 p q r (hs.trans hsub)
     ·rw [hfil]
      have:=congrArg List.length hrem
      simp at this ⊢; omega
     ·intro j
      constructor
      ·intro hj
       obtain ⟨q,hq,rfl⟩:=List.mem_map.1 hj
       obtain ⟨hq1,hq2⟩:=List.mem_filter.1 hq
       have hne:q.1≠i:=by simpa using hq2
       have:=(hmem q.1).1 (List.mem_map.2 ⟨q,hq1,rfl⟩)
       exact ⟨this.1,by rw [getD_set_ne true (Ne.symm hne)]; exact this.2⟩
      ·rintro ⟨h1,h2⟩
       have hne:j≠i:=by
        rintro rfl
        have hlt:j<listed.size:=by rw [hsz]; exact h1
        simp [hlt] at h2
       rw [getD_set_ne true (Ne.symm hne)] at h2
       obtain ⟨q,hq,rfl⟩:=List.mem_map.1 ((hmem j).2 ⟨h1,h2⟩)
       exact List.mem_map.2 ⟨q,List.mem_filter.2 ⟨hq,by simpa using hne⟩,rfl⟩
     ·intro x y hd hy
      by_cases e:y=i
      ·subst e
       apply getD_set_true
       have key:∀ x z,Dep ops x z→z=y→listed.getD x false=true:=by
        intro x z hd
        induction hd with
        | edge ho' he hb=>
          rintro rfl
          rw [ho] at ho'; cases ho'
          exact hall _ he hb
        | trans h1 h2 ih1 ih2=>
          rintro rfl
          exact hcl _ _ h1 (ih2 rfl)
       exact key _ _ hd rfl
      ·rw [getD_set_ne false (Ne.symm e)] at hy
       exact getD_set_true (hcl _ _ hd hy)
     ·intro q hq o' ho' e he hb'
      obtain ⟨hq1,hq2⟩:=List.mem_filter.1 hq
      rcases hed q hq1 o' ho' e he hb' with h|⟨p,hp,hs⟩
      ·exact .inl (getD_set_true h)
      ·by_cases hpi:p.1=i
       ·left
        rw [←hp,hpi]
        have hlt:i<listed.size:=by rw [hsz]; exact hilt
        simp [hlt]
       ·right
        refine ⟨p,hp,?_⟩
        have:=hs.filter (fun p=>p.1 != i)
        have hq2':(q.1 != i)=true:=hq2
        have hp2':(p.1 != i)=true:=by simpa using hpi
        rw [List.filter_cons,if_pos hp2',List.filter_cons,if_pos hq2'] at this
        exact this
theorem ZRF:∀ (n:Nat) (l:List Nat),l.Nodup→(∀ x∈l,x<n)→l.length≤n:=by
 intro n
 induction n with
 | zero=>
   intro l _ h
   cases l with
   | nil=>simp
   | cons x l=>have:=h x (by simp); omega
 | succ n ih=>
   intro l hn h
   by_cases hm:n∈l
   ·have:=ih (l.erase n) (hn.erase n) (fun x hx=>by
     have h1:=h x (List.mem_of_mem_erase hx)
     have h2:x≠n:=by rintro rfl; exact (List.Nodup.not_mem_erase hn) hx
     omega)
    rw [List.length_erase_of_mem hm] at this
    omega
   ·have:=ih l hn (fun x hx=>by
     have h1:=h x hx
     have h2:x≠n:=by rintro rfl; exact hm hx
     omega)
    omega
theorem ZPQ (hP:ZGb P A) {fr:Hp} {w0:World} {seq:Seq} (hc:ZGB A P ops seq=true) {bx:Nat→Nat} {env:Env} {a:Act} {h:Hp} {w:World} {K:Env→Hp→Prop}
 (R:Rel A N bx env a h fr w0 w) (hk:ZH4 A P N ops seq env h K) (t:Nat):ZGR P ops (Region.linearise .any ops t) a w (St A N fr w0 K):=by
 simp only [ZGB,Bool.and_eq_true,ZFC] at hc
 obtain ⟨hlen,hchk⟩:=hc
 have hdep:=ZT2 (ops:=ops) ops.toList [] (fun k o hk=>by simpa using hk) (fun j i hi=>by simp at hi)
 obtain ⟨h1,h2,h3⟩:=ZMQ (A:=A) (P:=P) (ops:=ops) hdep seq [] hchk ⟨by simp,fun p q hs=>(by cases hs),fun p q r hs=>(by cases hs)⟩ (fun q hq=>by cases hq) (fun q hq=>by cases hq)
 simp only [List.nil_append] at h1 h2 h3
 have hfull:∀ j,j<ops.size→j∈seq.map Prod.fst:=by
  intro j hj
  apply Classical.byContradiction
  intro hn
  have hsub:(j::seq.map Prod.fst).Nodup:=List.nodup_cons.2 ⟨hn,h1.nd⟩
  have:=ZRF ops.size (j::seq.map Prod.fst) hsub (fun x hx=>by
   rcases List.mem_cons.1 hx with rfl|hx
   ·exact hj
   ·obtain ⟨q,hq,rfl⟩:=List.mem_map.1 hx; exact h2 q hq)
  simp at this; omega
 refine ZQ5 hP ops.size t _ seq R h1 (by simp) (by omega) ?_ ?_ ?_ hk
 ·intro j
  constructor
  ·intro hj
   obtain ⟨q,hq,rfl⟩:=List.mem_map.1 hj
   have:=h2 q hq
   exact ⟨this,by simp [this]⟩
  ·rintro ⟨hj,_⟩; exact hfull j hj
 ·intro i j _ hj
  exfalso
  by_cases hlt:j<ops.size<;>simp [hlt] at hj
 ·intro q hq o ho e he hb
  exact .inr (h3 q hq o ho e he hb)
end
abbrev JS:=List (Nat×Bool×Cdc)
def JT:JS→Type
 | []=>Unit
 | [x]=>x.2.2.T
 | x::y::l=>x.2.2.T×JT (y::l)
def ZZk (c:Cdc) (cs:List Value):Option c.T:=
 match c.agg with
 | true=>c.dec (.agg cs.toArray)
 | false=>match cs with
   | [v]=>bif ZF7 v then c.dec v else none
   | _=>none
def ZYK (b:Bool) (c:Cdc):EV→Option c.T
 | .val v=>match b with
   | true=>none
   | false=>c.dec v
 | .box cs=>match b with
   | true=>ZZk c cs
   | false=>none
 | _=>none
def ZWm:(js:JS)→Env→Option (JT js)
 | [],_=>some ()
 | [(s,b,c)],env=>ZYK b c (env s)
 | (s,b,c)::y::l,env=>match ZYK b c (env s) with
   | some x=>match ZWm (y::l) env with
     | some r=>some (x,r)
     | none=>none
   | none=>none
def ev1 (b:Bool) (c:Cdc) (x:c.T):EV:=
 match b with
 | true=>.box (c.enc x).cells.toList
 | false=>.val (c.enc x)
def ZFp:(js:JS)→JT js→Nat→Option EV
 | [],_,_=>none
 | [(s,b,c)],x,k=>bif Nat.beq k s then some (ev1 b c x) else none
 | (s,b,c)::y::l,x,k=>bif Nat.beq k s then some (ev1 b c x.1) else ZFp (y::l) x.2 k
def envJ (A:Ann) (js:JS) (m:Nat) (env:Env) (x:JT js):Env:=fun s=>
 match ZFp js x s with
 | some e=>e
 | none=>bif m.testBit s||(A.refOf s).isSome then .unk else env s
def ZX {T:Type} (J:T→Hp→Prop) (B:(T→Hp→Prop)→Prop):Prop:=B J
def Zg {T:Type} (x0:T) (h0:Hp) (B:(T→Hp→Prop)→T→Hp→Prop):Prop:=
 ∃ (I:T→Hp→Prop) (μ:T→Hp→Nat),I x0 h0∧∀ x h,I x h→B (fun x' h'=>I x' h'∧μ x' h'<μ x h) x h
inductive An:Type 1 where
 | leaf
 | reg (seq:Seq)
 | regX
 | seq (a b:An)
 | join (js:JS) (m:Nat) (a b:An)
 | cond (a b:An)
 | block (a:An)
 | blockJ (js:JS) (m:Nat) (a:An)
 | loop (js:JS) (m:Nat) (a:An)
structure Ct where
 n:Env→Hp→Prop
 x:Nat→Env→Hp→Prop
 r:Option Value→Env→Hp→Prop
def toJ (js:JS) (e:Env) (h:Hp) (J:JT js→Hp→Prop):Prop:=
 match ZWm js e with
 | some x=>J x h
 | none=>False
def ZPb:Option Nat→Nat
 | some d=>2 ^ d
 | none=>0
def ZOd (A:Ann):List Oper→Nat
 | []=>0
 | o::l=>ZPb o.dst ||| (ZPb (ZAr A o) ||| ZOd A l)
def ZGH (a b:Nat):Bool:=Nat.beq (a ||| b) b
def ZBr:JS→Nat
 | []=>0
 | x::l=>2 ^ x.1 ||| ZBr l
def ZBU (A:Ann):Code→An→Nat
 | .region _ ops _,_=>ZOd A ops.toList
 | .seq a b,.seq a' b'=>ZBU A a a' ||| ZBU A b b'
 | .seq _ b,.join _ m _ b'=>m ||| ZBU A b b'
 | .cond _ x y,.cond x' y'=>ZBU A x x' ||| ZBU A y y'
 | .block _ c,.block a=>ZBU A c a
 | .block _ _,.blockJ _ m _=>m
 | .loop _,.loop _ m _=>m
 | _,_=>0
def ZCI (n:Nat):Seq:=(List.range n).map fun i=>(i,[])
def isX (A:Ann) (P:Program) (o:Oper):Bool:=
 match o.guard with
 | some _=>false
 | none=>match o.op with
   | .panic _=>true
   | .typeAssert _ _ _ true=>true
   | .binOp .neq _ _ (.const .nilIface) _=>true
   | .call c=>match c.callee,c.argTypes[1]? with
     | .value (.func g),_=>A.pan g
     | .builtin .cap,_=>true
     | .builtin .append,some u=>(match P.underlying u with|some (.int _)=>true|_=>false)
     | _,_=>false
   | _=>false
def ZX7 (A:Ann) (P:Program) (o:Oper) (env:Env):Option Value:=
 match o.op with
 | .typeAssert x _ t true=>match look A env x,P.underlying t with
   | .v (.iface t' v),some (.struct _)=>bif Nat.beq t' t then some (.tuple #[v,.bool true]) else (match ZDA P t with
     | some z=>some (.tuple #[z,.bool false])
     | none=>none)
   | _,_=>none
 | .binOp .neq t x (.const .nilIface) _=>match look A env x,P.underlying t with
   | .v (.iface _ _),some (.interface _)=>some (.bool true)
   | .v .nilIface,some (.interface _)=>some (.bool false)
   | _,_=>none
 | .call c=>match c.callee,c.argTypes[0]?,ZHw (look A env) c.args.toList with
   | .builtin .cap,some t,some [.slice _ _ n]=>(match P.underlying t with
     | some (.slice _)=>some (.int .i64 (n:Int))
     | _=>none)
   | _,_,_=>none
 | _=>none
def ZV9 (A:Ann) (P:Program) (N:Nat) (o:Oper) (env:Env) (h:Hp) (K:Env→Hp→Prop) (S:Value→Env→Hp→Prop):Prop:=
 match ZX7 A P o env with
 | some v=>bif ZFX N o then K (put A env o.dst (.val v)) h else False
 | none=>match o.op with
   | .panic x=>match look A env x with
     | .v (.iface t v)=>S (.iface t v) env h
     | _=>False
   | .call c=>bif ZFX N o then (match c.callee with
     | .value (.func g)=>match ZHw (look A env) c.args.toList,A.res g,P.funcs[g]? with
       | some l,some r,some fn=>match fn.body with
         | some _=>ZEb P g l r h (fun y h'=>K (put A env o.dst (.val (r.enc y))) h') (fun v h'=>S v env h')
         | none=>False
       | _,_,_=>False
     | .builtin .append=>match c.argTypes[0]?,c.argTypes[1]?,ZHw (look A env) c.args.toList with
       | some t,some u,some [.slice a len cap,.int _ n]=>match P.underlying t,P.underlying u with
         | some (.slice e),some (.int _)=>match A.cdc e,ZDA P e with
           | some cd,some zv=>bif ZAn P cd e&&(Nat.ble 1 (ZAu P e)&&Nat.ble (ZAu P e) 1048576) then
               (match cd.dec zv with
               | some z=>ZGw cd z e (ZAu P e) a len cap n h fun a' l' c' h'=>K (put A env o.dst (.val (.slice a' l' c'))) h'
               | none=>False)
             else False
           | _,_=>False
         | _,_=>False
       | _,_,_=>False
     | _=>False) else False
   | _=>False
def ZJ9 (A:Ann) (P:Program) (N:Nat) (ops:Array Oper) (o:Oper) (env:Env) (h:Hp) (K:Env→Hp→Prop) (S:Value→Env→Hp→Prop):Prop:=
 bif isX A P o then ZV9 A P N o env h K S else ZAN A P N ops o env h K
def ZPW (A:Ann) (P:Program) (N:Nat) (ops:Array Oper):List Nat→Env→Hp→(Env→Hp→Prop)→(Value→Env→Hp→Prop)→Prop
 | [],env,h,K,_=>K env h
 | i::l,env,h,K,S=>match ops[i]? with
   | some o=>ZJ9 A P N ops o env h (fun e h=>ZPW A P N ops l e h K S) S
   | none=>False
def ZAJ (A:Ann) (P:Program) (N:Nat):Code→An→Env→Hp→Ct→Prop
 | .skip,_,env,h,C=>C.n env h
 | .label _,_,env,h,C=>C.n env h
 | .region _ ops draw,.reg seq,env,h,C=>match draw with
   | true=>bif ZGB A P ops seq then ZH4 A P N ops seq env h C.n else False
   | false=>ZH4 A P N ops (ZCI ops.size) env h C.n
 | .region _ ops draw,.regX,env,h,C=>match draw with
   | true=>False
   | false=>ZPW A P N ops (List.range ops.size) env h C.n fun v=>C.r (some v)
 | .seq a b,.seq a' b',env,h,C=>ZAJ A P N a a' env h {C with n:=fun e h=>ZAJ A P N b b' e h C}
 | .seq a b,.join js m a' b',env,h,C=>bif ZGH (ZBU A a a') m&&ZGH (ZBr js) m then
    ZX (fun x h=>ZAJ A P N b b' (envJ A js m env x) h C) fun J=>ZAJ A P N a a' env h {C with n:=fun e h=>toJ js e h J}
   else False
 | .cond c x y,.cond x' y',env,h,C=>match look A env c with
   | .v (.bool b)=>ZB b (ZAJ A P N x x' env h C) (ZAJ A P N y y' env h C)
   | _=>False
 | .block id c,.block a,env,h,C=>ZAJ A P N c a env h {C with x:=fun k=>bif Nat.beq k id then C.n else C.x k}
 | .block id c,.blockJ js m a,env,h,C=>bif ZGH (ZBU A c a) m&&ZGH (ZBr js) m then
    ZX (fun x h=>C.n (envJ A js m env x) h) fun J=>ZAJ A P N c a env h {n:=fun e h=>toJ js e h J,x:=fun k=>bif Nat.beq k id then (fun e h=>toJ js e h J) else C.x k,r:=C.r}
   else False
 | .loop c,.loop js m a,env,h,C=>bif ZGH (ZBU A c a) m&&ZGH (ZBr js) m then
    (match ZWm js env with
    | some x0=>Zg x0 h fun again x h=>ZAJ A P N c a (envJ A js m env x) h {C with n:=fun e h=>toJ js e h again}
    | none=>False)
   else False
 | .exit id,_,env,h,C=>C.x id env h
 | .ret,_,env,h,C=>C.r none env h
 | _,_,_,_,_=>False
def Ct.le (C C':Ct):Prop:=(∀ e h,C.n e h→C'.n e h)∧(∀ k e h,C.x k e h→C'.x k e h)∧∀ o e h,C.r o e h→C'.r o e h
section
variable {A:Ann} {P:Program} {N:Nat}
theorem ZEE {js:JS} {e:Env} {h:Hp} {J J':JT js→Hp→Prop} (hJ:∀ x h,J x h→J' x h) (hk:toJ js e h J):toJ js e h J':=by
 unfold toJ at hk ⊢
 split at hk
 ·exact hJ _ _ hk
 ·exact hk.elim
theorem ZR6.mono {f:FuncId} {args:Array Value} {h:Hp} {R R' S S':Value→Hp→Prop} (s:ZR6 P f args h R S) (hr:∀ v h',R v h'→R' v h') (hs:∀ v h',S v h'→S' v h'):ZR6 P f args h R' S':=
 fun w fr a b c=>(s w fr a b c).mono fun _ _ ⟨v,h',he,rest⟩=>⟨v,h',he.imp (fun ⟨e,k⟩=>⟨e,hr _ _ k⟩) (fun ⟨e,k⟩=>⟨e,hs _ _ k⟩),rest⟩
theorem ZRB {o:Oper} (h:isX A P o=true):o.guard=none:=by
 unfold isX at h
 split at h
 ·cases h
 ·assumption
def ZZf (A:Ann) (P:Program) (N:Nat) (o:Oper) (env:Env) (h:Hp) (K:Env→Hp→Prop) (S:Value→Env→Hp→Prop):Prop:=
 (ZFX N o=true∧∃ v,ZX7 A P o env=some v∧K (put A env o.dst (.val v)) h)∨
 (ZX7 A P o env=none∧((∃ x t v,o.op=.panic x∧look A env x=.v (.iface t v)∧S (.iface t v) env h)∨
   (∃ c,o.op=.call c∧ZFX N o=true∧
     ((∃ g l r fn b,c.callee=.value (.func g)∧ZHw (look A env) c.args.toList=some l∧A.res g=some r∧P.funcs[g]?=some fn∧fn.body=some b∧
       ZEb P g l r h (fun y h'=>K (put A env o.dst (.val (r.enc y))) h') (fun v h'=>S v env h'))∨
     (∃ t u a len cap k n e k' cd zv z,c.callee=.builtin .append∧c.argTypes[0]?=some t∧c.argTypes[1]?=some u∧ZHw (look A env) c.args.toList=some [.slice a len cap,.int k n]∧P.underlying t=some (.slice e)∧P.underlying u=some (.int k')∧
       A.cdc e=some cd∧ZDA P e=some zv∧ZAn P cd e=true∧(1≤ZAu P e∧ZAu P e≤1048576)∧cd.dec zv=some z∧
       ZGw cd z e (ZAu P e) a len cap n h fun a' l' c' h'=>K (put A env o.dst (.val (.slice a' l' c'))) h')))))
theorem ZId {o:Oper} {env:Env} {h:Hp} {K:Env→Hp→Prop} {S:Value→Env→Hp→Prop} (hk:ZV9 A P N o env h K S):ZZf A P N o env h K S:=by
 unfold ZV9 at hk
 split at hk
 ·rename_i v hv
  cases hd:ZFX N o with
  | false=>rw [hd] at hk; exact hk.elim
  | true=>rw [hd] at hk; exact .inl ⟨hd,v,hv,hk⟩
 ·rename_i hv
  refine .inr ⟨hv,?_⟩
  split at hk
  ·rename_i x hop
   split at hk
   ·rename_i t v hl; exact .inl ⟨x,t,v,hop,hl,hk⟩
   ·exact hk.elim
  ·rename_i c hop
   cases hd:ZFX N o with
   | false=>rw [hd] at hk; exact hk.elim
   | true=>
     rw [hd] at hk
     simp only [cond_true] at hk
     refine .inr ⟨c,hop,rfl,?_⟩
     split at hk
     ·rename_i g hcal
      split at hk
      ·rename_i l r fn hl hr hfn
       split at hk
       ·rename_i b hb; exact .inl ⟨g,l,r,fn,b,hcal,hl,hr,hfn,hb,hk⟩
       ·exact hk.elim
      ·exact hk.elim
     ·rename_i hcal
      split at hk
      ·rename_i t u a len cap k n ht hu hl
       split at hk
       ·rename_i e k' ht' hu'
        split at hk
        ·rename_i cd zv hcd hzv
         cases hb:(ZAn P cd e&&(Nat.ble 1 (ZAu P e)&&Nat.ble (ZAu P e) 1048576)) with
         | false=>rw [hb] at hk; exact hk.elim
         | true=>
           rw [hb] at hk
           simp only [cond_true] at hk
           simp only [Bool.and_eq_true] at hb
           split at hk
           ·rename_i z hz
            exact .inr ⟨t,u,a,len,cap,k,n,e,k',cd,zv,z,hcal,ht,hu,hl,ht',hu',hcd,hzv,hb.1,⟨Nat.le_of_ble_eq_true hb.2.1,Nat.le_of_ble_eq_true hb.2.2⟩,hz,hk⟩
           ·exact hk.elim
        ·exact hk.elim
       ·exact hk.elim
      ·exact hk.elim
     ·exact hk.elim
  ·exact hk.elim
theorem ZI3 {o:Oper} {env:Env} {h:Hp} {K:Env→Hp→Prop} {S:Value→Env→Hp→Prop} (hk:ZZf A P N o env h K S):ZV9 A P N o env h K S:=by
 unfold ZV9
 rcases hk with ⟨hd,v,hv,hk⟩|⟨hv,⟨x,t,v,hop,hl,hk⟩|⟨c,hop,hd,⟨g,l,r,fn,b,hcal,hl,hr,hfn,hb,hk⟩|⟨t,u,a,len,cap,k,n,e,k',cd,zv,z,hcal,ht,hu,hl,ht',hu',hcd,hzv,hf,hb,hz,hk⟩⟩⟩
 ·rw [hv]; dsimp only; rw [hd]; exact hk
 ·rw [hv]; dsimp only; rw [hop]; dsimp only; rw [hl]; exact hk
 ·rw [hv]; dsimp only; rw [hop]; dsimp only; rw [hd]; simp only [cond_true]; rw [hcal]; dsimp only; rw [hl,hr,hfn]; dsimp only; rw [hb]; exact hk
 ·rw [hv]; dsimp only; rw [hop]; dsimp only; rw [hd]; simp only [cond_true]; rw [hcal]; dsimp only; rw [hl,ht,hu]; dsimp only; rw [ht',hu']; dsimp only; rw [hcd,hzv]; dsimp only
  rw [hf,Nat.ble_eq_true_of_le hb.1,Nat.ble_eq_true_of_le hb.2]
  simp only [Bool.and_self,cond_true]
  rw [hz]; exact hk
theorem ZOn {c:Cdc} {z:c.T} {e:TypeId} {bytes:Nat} {a:Option Addr} {len cap:Nat} {n:Int} {h:Hp} {K K':Option Addr→Nat→Nat→Hp→Prop} (hK:∀ a l c h,K a l c h→K' a l c h) (hk:ZGw c z e bytes a len cap n h K):ZGw c z e bytes a len cap n h K':=by
 obtain ⟨h0,h1,h2,h3⟩:=hk
 refine ⟨h0,h1,fun hc=>?_,fun hc=>?_⟩
 ·have:=h2 hc
  cases a with
  | none=>exact hK _ _ _ _ this
  | some ad=>exact ⟨this.1,hK _ _ _ _ this.2⟩
 ·obtain ⟨hr,he⟩:=h3 hc
  refine ⟨hr,?_⟩
  have mono:∀ {R R':List c.T→Prop},(∀ xs,R xs→R' xs)→ZB6 c a len h R→ZB6 c a len h R':=by
   intro R R' hRR he
   unfold ZB6 at he ⊢
   cases a with
   | none=>exact ⟨he.1,hRR _ he.2⟩
   | some ad=>obtain ⟨xs,e1,e2,e3⟩:=he; exact ⟨xs,e1,e2,hRR _ e3⟩
  exact mono (fun xs hx nc pad e1 e2 b hb=>hK _ _ _ _ (hx nc pad e1 e2 b hb)) he
theorem ZKB {o:Oper} {env:Env} {h:Hp} {K K':Env→Hp→Prop} {S S':Value→Env→Hp→Prop} (hK:∀ e h,K (put A env o.dst e) h→K' (put A env o.dst e) h) (hS:∀ v e h,S v e h→S' v e h) (hk:ZV9 A P N o env h K S):
 ZV9 A P N o env h K' S':=by
 rcases ZId hk with ⟨hd,v,hv,hk⟩|⟨hv,⟨x,t,v,hop,hl,hk⟩|⟨c,hop,hd,⟨g,l,r,fn,b,hcal,hl,hr,hfn,hb,hk⟩|⟨t,u,a,len,cap,k,n,e,k',cd,zv,z,hcal,ht,hu,hl,ht',hu',hcd,hzv,hf,hb,hz,hk⟩⟩⟩
 ·exact ZI3 (.inl ⟨hd,v,hv,hK _ _ hk⟩)
 ·exact ZI3 (.inr ⟨hv,.inl ⟨x,t,v,hop,hl,hS _ _ _ hk⟩⟩)
 ·exact ZI3 (.inr ⟨hv,.inr ⟨c,hop,hd,.inl ⟨g,l,r,fn,b,hcal,hl,hr,hfn,hb,ZR6.mono hk (fun v h' ⟨x,e,k⟩=>⟨x,e,hK _ _ k⟩) (fun v h' k=>hS _ _ _ k)⟩⟩⟩)
 ·exact ZI3 (.inr ⟨hv,.inr ⟨c,hop,hd,.inr ⟨t,u,a,len,cap,k,n,e,k',cd,zv,z,hcal,ht,hu,hl,ht',hu',hcd,hzv,hf,hb,hz,ZOn (fun a l c h k=>hK _ _ k) hk⟩⟩⟩)
theorem ZIH {ops:Array Oper} {o:Oper} {env:Env} {h:Hp} {K K':Env→Hp→Prop} {S S':Value→Env→Hp→Prop} (hK:∀ e h,K e h→K' e h) (hS:∀ v e h,S v e h→S' v e h) (hk:ZJ9 A P N ops o env h K S):
 ZJ9 A P N ops o env h K' S':=by
 unfold ZJ9 at hk ⊢
 cases hx:isX A P o with
 | true=>rw [hx] at hk; exact ZKB (fun e h=>hK _ h) hS hk
 | false=>rw [hx] at hk; exact Z4 hk hK
theorem ZJ3 {ops:Array Oper}:∀ {l:List Nat} {env:Env} {h:Hp} {K K':Env→Hp→Prop} {S S':Value→Env→Hp→Prop},(∀ e h,K e h→K' e h)→(∀ v e h,S v e h→S' v e h)→ZPW A P N ops l env h K S→ZPW A P N ops l env h K' S':=by
 intro l
 induction l with
 | nil=>intro env h K K' S S' hK _ hk; exact hK _ _ hk
 | cons i l ih=>
   intro env h K K' S S' hK hS hk
   unfold ZPW at hk ⊢
   split at hk
   ·rename_i o ho
    exact ZIH (fun e h hk=>ih hK hS hk) hS hk
   ·exact hk.elim
theorem ZOI:∀ (c:Code) (a:An) (env:Env) (h:Hp) (C C':Ct),C.le C'→ZAJ A P N c a env h C→ZAJ A P N c a env h C':=by
 intro c
 induction c with
 | skip=>intro a env h C C' hC hk; exact hC.1 _ _ hk
 | label l=>intro a env h C C' hC hk; exact hC.1 _ _ hk
 | region id ops draw=>
   intro a env h C C' hC hk
   cases a<;>try exact hk.elim
   ·rename_i seq
    cases draw with
    | true=>
      simp only [ZAJ] at hk ⊢
      cases hc:ZGB A P ops seq with
      | false=>rw [hc] at hk; exact hk.elim
      | true=>rw [hc] at hk; exact ZHW hC.1 hk
    | false=>exact ZHW hC.1 hk
   ·cases draw with
    | true=>exact hk.elim
    | false=>exact ZJ3 hC.1 (fun v=>hC.2.2 (some v)) hk
 | seq x y ihx ihy=>
   intro a env h C C' hC hk
   cases a<;>try exact hk.elim
   ·rename_i a b
    exact ihx a env h {C with n:=fun e h=>ZAJ A P N y b e h C} {C' with n:=fun e h=>ZAJ A P N y b e h C'} ⟨fun e h hk=>ihy b e h C C' hC hk,hC.2⟩ hk
   ·rename_i js m a b
    simp only [ZAJ] at hk ⊢
    cases hc:(ZGH (ZBU A x a) m&&ZGH (ZBr js) m) with
    | false=>rw [hc] at hk; exact hk.elim
    | true=>
      rw [hc] at hk
      exact ihx a env h {C with n:=fun e h=>toJ js e h fun x h=>ZAJ A P N y b (envJ A js m env x) h C} {C' with n:=fun e h=>toJ js e h fun x h=>ZAJ A P N y b (envJ A js m env x) h C'} ⟨fun e h hk=>ZEE (fun z h hk=>ihy b _ h C C' hC hk) hk,hC.2⟩ hk
 | cond o x y ihx ihy=>
   intro a env h C C' hC hk
   cases a<;>try exact hk.elim
   rename_i a b
   simp only [ZAJ] at hk ⊢
   split at hk
   ·rename_i t ht
    cases t
    ·exact ihy b env h C C' hC hk
    ·exact ihx a env h C C' hC hk
   ·exact hk.elim
 | block id c ih=>
   intro a env h C C' hC hk
   cases a<;>try exact hk.elim
   ·rename_i a
    refine ih a env h {C with x:=fun k=>bif Nat.beq k id then C.n else C.x k} {C' with x:=fun k=>bif Nat.beq k id then C'.n else C'.x k} ⟨hC.1,?_,hC.2.2⟩ hk
    intro k e h hk
    dsimp only at hk ⊢
    cases hb:Nat.beq k id with
    | true=>rw [hb] at hk; exact hC.1 _ _ hk
    | false=>rw [hb] at hk; exact hC.2.1 _ _ _ hk
   ·rename_i js m a
    simp only [ZAJ] at hk ⊢
    cases hc:(ZGH (ZBU A c a) m&&ZGH (ZBr js) m) with
    | false=>rw [hc] at hk; exact hk.elim
    | true=>
      rw [hc] at hk
      refine ih a env h {n:=fun e h=>toJ js e h fun x h=>C.n (envJ A js m env x) h,x:=fun k=>bif Nat.beq k id then (fun e h=>toJ js e h fun x h=>C.n (envJ A js m env x) h) else C.x k,r:=C.r}
       {n:=fun e h=>toJ js e h fun x h=>C'.n (envJ A js m env x) h,x:=fun k=>bif Nat.beq k id then (fun e h=>toJ js e h fun x h=>C'.n (envJ A js m env x) h) else C'.x k,r:=C'.r} ⟨fun e h hk=>ZEE (fun z h hk=>hC.1 _ _ hk) hk,?_,hC.2.2⟩ hk
      intro k e h hk
      dsimp only at hk ⊢
      cases hb:Nat.beq k id with
      | true=>rw [hb] at hk; exact ZEE (fun z h hk=>hC.1 _ _ hk) hk
      | false=>rw [hb] at hk; exact hC.2.1 _ _ _ hk
 | loop c ih=>
   intro a env h C C' hC hk
   cases a<;>try exact hk.elim
   rename_i js m a
   simp only [ZAJ] at hk ⊢
   cases hc:(ZGH (ZBU A c a) m&&ZGH (ZBr js) m) with
   | false=>rw [hc] at hk; exact hk.elim
   | true=>
     rw [hc] at hk
     simp only [cond_true] at hk ⊢
     split at hk
     ·obtain ⟨I,μ,h0,hr⟩:=hk
      exact ⟨I,μ,h0,fun x h hI=>ih a _ h {C with n:=fun e h'=>toJ js e h' fun x' h'=>I x' h'∧μ x' h'<μ x h} {C' with n:=fun e h'=>toJ js e h' fun x' h'=>I x' h'∧μ x' h'<μ x h} ⟨fun e h hk=>hk,hC.2⟩ (hr x h hI)⟩
     ·exact hk.elim
 | exit id=>intro a env h C C' hC hk; exact hC.2.1 _ _ _ hk
 | ret=>intro a env h C C' hC hk; exact hC.2.2 _ _ _ hk
 | scope c ih=>intro a env h C C' hC hk; exact hk.elim
 | goto l=>intro a env h C C' hC hk; exact hk.elim
 | refuse s=>intro a env h C C' hC hk; exact hk.elim
 | rangeFunc f p x y=>intro a env h C C' hC hk; exact hk.elim
def Agr (A:Ann) (m:Nat) (env env':Env):Prop:=∀ s,m.testBit s=false→A.refOf s=none→env' s=env s
theorem Agr.refl (m:Nat) (env:Env):Agr A m env env:=fun _ _ _=>rfl
theorem Agr.trans {m m':Nat} {a b c:Env} (h:Agr A m a b) (k:Agr A m' b c):Agr A (m ||| m') a c:=by
 intro s hs hr
 simp only [Nat.testBit_or,Bool.or_eq_false_iff] at hs
 exact (k s hs.2 hr).trans (h s hs.1 hr)
theorem Agr.mono {m m':Nat} {a b:Env} (h:Agr A m a b) (hm:∀ s,m.testBit s=true→m'.testBit s=true):Agr A m' a b:=by
 intro s hs hr
 refine h s ?_ hr
 cases hb:m.testBit s with
 | false=>rfl
 | true=>rw [hm s hb] at hs; cases hs
theorem ZCj {a b:Nat} (h:ZGH a b=true):∀ s,a.testBit s=true→b.testBit s=true:=by
 intro s hs
 have:=ZFC.1 h
 rw [←this,Nat.testBit_or,hs,Bool.true_or]
theorem ZMF {env:Env} {d:Option Tmp} {e:EV}:Agr A (ZPb d) env (put A env d e):=by
 intro s hs hr
 cases d with
 | none=>rfl
 | some d=>
   have hne:s≠d:=by
    rintro rfl
    simp [ZPb] at hs
   rcases ZBX (A:=A) (env:=env) e hne with h|⟨_,_,h3⟩
   ·exact h
   ·rw [hr] at h3; cases h3
theorem ZLE {ops:Array Oper} {o:Oper} {env:Env} {h:Hp} {K:Env→Hp→Prop} (hk:ZAN A P N ops o env h K):
 ZAN A P N ops o env h fun e h=>Agr A (ZPb o.dst ||| ZPb (ZAr A o)) env e∧K e h:=by
 refine ZCZ hk (ZAs.refl o env) fun d hd e h' _ hk=>⟨?_,hk⟩
 rcases hd with rfl|rfl
 ·exact ZMF.mono fun s hs=>by rw [Nat.testBit_or,hs,Bool.true_or]
 ·exact ZMF.mono fun s hs=>by rw [Nat.testBit_or,hs,Bool.or_true]
theorem ZMi {A:Ann} {o:Oper}:∀ {l:List Oper},o∈l→∀ s,(ZPb o.dst ||| ZPb (ZAr A o)).testBit s=true→(ZOd A l).testBit s=true:=by
 intro l
 induction l with
 | nil=>intro h; cases h
 | cons x l ih=>
   intro h s hs
   simp only [ZOd,Nat.testBit_or,Bool.or_eq_true] at hs ⊢
   rcases List.mem_cons.1 h with rfl|h
   ·rcases hs with hs|hs
    ·exact .inl hs
    ·exact .inr (.inl hs)
   ·exact .inr (.inr (ih h s (by simpa [Nat.testBit_or] using hs)))
theorem ZNP {ops:Array Oper}:∀ {l:Seq} {env:Env} {h:Hp} {K:Env→Hp→Prop},ZH4 A P N ops l env h K→ZH4 A P N ops l env h fun e h=>Agr A (ZOd A ops.toList) env e∧K e h:=by
 intro l
 induction l with
 | nil=>intro env h K hk; exact ⟨Agr.refl _ _,hk⟩
 | cons y l ih=>
   intro env h K hk
   obtain ⟨i,ks⟩:=y
   rw [ZCf] at hk ⊢
   obtain ⟨o,ho,hk⟩:=hk
   refine ⟨o,ho,Z4 (ZLE hk) fun e h ⟨hag,hkk,hk⟩=>⟨hkk,ZHW ?_ (ih hk)⟩⟩
   rintro e' h' ⟨hag',hk'⟩
   refine ⟨(hag.trans hag').mono fun s hs=>?_,hk'⟩
   rw [Nat.testBit_or,Bool.or_eq_true] at hs
   rcases hs with hs|hs
   ·exact ZMi (by simpa using List.mem_of_getElem? (by simpa using ho:ops.toList[i]?=some o)) s hs
   ·exact hs
theorem ZSZ {ops:Array Oper} {o:Oper} {env:Env} {h:Hp} {K:Env→Hp→Prop} {S:Value→Env→Hp→Prop} (hk:ZJ9 A P N ops o env h K S):
 ZJ9 A P N ops o env h (fun e h=>Agr A (ZPb o.dst ||| ZPb (ZAr A o)) env e∧K e h) S:=by
 unfold ZJ9 at hk ⊢
 cases hx:isX A P o with
 | true=>rw [hx] at hk; exact ZKB (K':=fun e h=>Agr A (ZPb o.dst ||| ZPb (ZAr A o)) env e∧K e h) (fun e h hk=>⟨ZMF.mono fun s hs=>by rw [Nat.testBit_or,hs,Bool.true_or],hk⟩) (fun _ _ _ h=>h) hk
 | false=>rw [hx] at hk; exact ZLE hk
theorem ZUF {ops:Array Oper}:∀ {l:List Nat} {env:Env} {h:Hp} {K:Env→Hp→Prop} {S:Value→Env→Hp→Prop},ZPW A P N ops l env h K S→ZPW A P N ops l env h (fun e h=>Agr A (ZOd A ops.toList) env e∧K e h) S:=by
 intro l
 induction l with
 | nil=>intro env h K S hk; exact ⟨Agr.refl _ _,hk⟩
 | cons i l ih=>
   intro env h K S hk
   unfold ZPW at hk ⊢
   split at hk
   ·rename_i o ho
    refine ZIH ?_ (fun _ _ _ h=>h) (ZSZ hk)
    rintro e h ⟨hag,hk⟩
    refine ZJ3 ?_ (fun _ _ _ h=>h) (ih hk)
    rintro e' h' ⟨hag',hk'⟩
    refine ⟨(hag.trans hag').mono fun s hs=>?_,hk'⟩
    rw [Nat.testBit_or,Bool.or_eq_true] at hs
    rcases hs with hs|hs
    ·exact ZMi (by simpa using List.mem_of_getElem? (by simpa using ho:ops.toList[i]?=some o)) s hs
    ·exact hs
   ·exact hk.elim
def Ct.agr (C:Ct) (A:Ann) (m:Nat) (env:Env):Ct:=
 {n:=fun e h=>Agr A m env e∧C.n e h,x:=fun k e h=>Agr A m env e∧C.x k e h,r:=C.r}
theorem ZIT:∀ {js:JS} {x:JT js} {s:Nat} {e:EV},ZFp js x s=some e→(ZBr js).testBit s=true:=by
 intro js
 match js with
 | []=>intro x s e h; cases h
 | [(t,b,c)]=>
   intro x s e h
   simp only [ZFp] at h
   cases hb:Nat.beq s t with
   | false=>rw [hb] at h; cases h
   | true=>rw [ZFC.1 hb]; simp [ZBr]
 | (t,b,c)::y::l=>
   intro x s e h
   simp only [ZFp] at h
   cases hb:Nat.beq s t with
   | true=>rw [ZFC.1 hb]; simp [ZBr,Nat.testBit_or,Nat.testBit_two_pow]
   | false=>
     rw [hb] at h
     have:=ZIT (js:=y::l) h
     unfold ZBr
     rw [Nat.testBit_or,this,Bool.or_true]
theorem ZEP {js:JS} {m:Nat} {env:Env} {x:JT js} (hj:ZGH (ZBr js) m=true):Agr A m env (envJ A js m env x):=by
 intro s hs hr
 unfold envJ
 cases hl:ZFp js x s with
 | some e=>
   have:=ZCj hj s (ZIT hl)
   rw [hs] at this; cases this
 | none=>simp [hs,hr]
theorem ZCN {c:Code} {a:An} {env:Env} {h:Hp} {C C':Ct} (hk:ZAJ A P N c a env h C) (hC:C.le C'):ZAJ A P N c a env h C':=
 ZOI c a env h C C' hC hk
theorem ZHM:∀ (c:Code) (a:An) (env:Env) (h:Hp) (C:Ct),ZAJ A P N c a env h C→ZAJ A P N c a env h (C.agr A (ZBU A c a) env):=by
 intro c
 induction c with
 | skip=>intro a env h C hk; exact ⟨Agr.refl _ _,hk⟩
 | label l=>intro a env h C hk; exact ⟨Agr.refl _ _,hk⟩
 | region id ops draw=>
   intro a env h C hk
   cases a<;>try exact hk.elim
   ·rename_i seq
    cases draw with
    | true=>
      simp only [ZAJ] at hk ⊢
      cases hc:ZGB A P ops seq with
      | false=>rw [hc] at hk; exact hk.elim
      | true=>rw [hc] at hk; exact ZNP hk
    | false=>exact ZNP hk
   ·cases draw with
    | true=>exact hk.elim
    | false=>exact ZUF hk
 | seq x y ihx ihy=>
   intro a env h C hk
   cases a<;>try exact hk.elim
   ·rename_i a b
    simp only [ZAJ] at hk ⊢
    refine ZCN (ihx a env h {C with n:=fun e h=>ZAJ A P N y b e h C} hk) ⟨?_,?_,fun _ e h hk=>hk⟩
    ·rintro e h ⟨hag,hk⟩
     refine ZCN (ihy b e h C hk) ⟨?_,?_,fun _ e h hk=>hk⟩
     ·rintro e' h' ⟨hag',hk'⟩; exact ⟨hag.trans hag',hk'⟩
     ·rintro k e' h' ⟨hag',hk'⟩; exact ⟨hag.trans hag',hk'⟩
    ·rintro k e h ⟨hag,hk⟩
     exact ⟨hag.mono fun s hs=>by show (ZBU A x a ||| ZBU A y b).testBit s=true; rw [Nat.testBit_or,hs,Bool.true_or],hk⟩
   ·rename_i js m a b
    simp only [ZAJ] at hk ⊢
    cases hc:(ZGH (ZBU A x a) m&&ZGH (ZBr js) m) with
    | false=>rw [hc] at hk; exact hk.elim
    | true=>
      rw [hc] at hk
      simp only [cond_true] at hk ⊢
      simp only [Bool.and_eq_true] at hc
      refine ZCN (ihx a env h {C with n:=fun e h=>toJ js e h fun x h=>ZAJ A P N y b (envJ A js m env x) h C} hk) ⟨?_,?_,fun _ e h hk=>hk⟩
      ·rintro e h ⟨hag,hk⟩
       dsimp only at hk ⊢
       refine ZEE (fun z h hk=>?_) hk
       refine ZCN (ihy b _ h C hk) ⟨?_,?_,fun _ e h hk=>hk⟩
       ·rintro e' h' ⟨hag',hk'⟩; exact ⟨(ZEP hc.2).trans hag',hk'⟩
       ·rintro k e' h' ⟨hag',hk'⟩; exact ⟨(ZEP hc.2).trans hag',hk'⟩
      ·rintro k e h ⟨hag,hk⟩
       exact ⟨hag.mono fun s hs=>by show (m ||| ZBU A y b).testBit s=true; rw [Nat.testBit_or,ZCj hc.1 s hs,Bool.true_or],hk⟩
 | cond o x y ihx ihy=>
   intro a env h C hk
   cases a<;>try exact hk.elim
   rename_i a b
   simp only [ZAJ] at hk ⊢
   split at hk
   ·rename_i t ht
    cases t
    ·refine ZCN (ihy b env h C hk) ⟨?_,?_,fun _ e h hk=>hk⟩
     ·rintro e h ⟨hag,hk⟩; exact ⟨hag.mono fun s hs=>by show (ZBU A x a ||| ZBU A y b).testBit s=true; rw [Nat.testBit_or,hs,Bool.or_true],hk⟩
     ·rintro k e h ⟨hag,hk⟩; exact ⟨hag.mono fun s hs=>by show (ZBU A x a ||| ZBU A y b).testBit s=true; rw [Nat.testBit_or,hs,Bool.or_true],hk⟩
    ·refine ZCN (ihx a env h C hk) ⟨?_,?_,fun _ e h hk=>hk⟩
     ·rintro e h ⟨hag,hk⟩; exact ⟨hag.mono fun s hs=>by show (ZBU A x a ||| ZBU A y b).testBit s=true; rw [Nat.testBit_or,hs,Bool.true_or],hk⟩
     ·rintro k e h ⟨hag,hk⟩; exact ⟨hag.mono fun s hs=>by show (ZBU A x a ||| ZBU A y b).testBit s=true; rw [Nat.testBit_or,hs,Bool.true_or],hk⟩
   ·exact hk.elim
 | block id c ih=>
   intro a env h C hk
   cases a<;>try exact hk.elim
   ·rename_i a
    simp only [ZAJ] at hk ⊢
    refine ZCN (ih a env h {C with x:=fun k=>bif Nat.beq k id then C.n else C.x k} hk) ⟨fun e h hk=>hk,?_,fun _ e h hk=>hk⟩
    rintro k e h ⟨hag,hk⟩
    dsimp only at hk ⊢
    cases hb:Nat.beq k id with
    | true=>rw [hb] at hk; exact ⟨hag,hk⟩
    | false=>rw [hb] at hk; exact ⟨hag,hk⟩
   ·rename_i js m a
    simp only [ZAJ] at hk ⊢
    cases hc:(ZGH (ZBU A c a) m&&ZGH (ZBr js) m) with
    | false=>rw [hc] at hk; exact hk.elim
    | true=>
      rw [hc] at hk
      simp only [cond_true] at hk ⊢
      simp only [Bool.and_eq_true] at hc
      refine ZCN (ih a env h {n:=fun e h=>toJ js e h fun x h=>C.n (envJ A js m env x) h,x:=fun k=>bif Nat.beq k id then (fun e h=>toJ js e h fun x h=>C.n (envJ A js m env x) h) else C.x k,r:=C.r} hk) ⟨?_,?_,fun _ e h hk=>hk⟩
      ·rintro e h ⟨hag,hk⟩
       exact ZEE (fun z h hk=>⟨ZEP hc.2,hk⟩) hk
      ·rintro k e h ⟨hag,hk⟩
       dsimp only at hk ⊢
       cases hb:Nat.beq k id with
       | true=>rw [hb] at hk; exact ZEE (fun z h hk=>⟨ZEP hc.2,hk⟩) hk
       | false=>rw [hb] at hk; exact ⟨hag.mono (ZCj hc.1),hk⟩
 | loop c ih=>
   intro a env h C hk
   cases a<;>try exact hk.elim
   rename_i js m a
   simp only [ZAJ] at hk ⊢
   cases hc:(ZGH (ZBU A c a) m&&ZGH (ZBr js) m) with
   | false=>rw [hc] at hk; exact hk.elim
   | true=>
     rw [hc] at hk
     simp only [cond_true] at hk ⊢
     simp only [Bool.and_eq_true] at hc
     split at hk
     ·obtain ⟨I,μ,h0,hr⟩:=hk
      refine ⟨I,μ,h0,fun x h hI=>ZCN (ih a _ h {C with n:=fun e h'=>toJ js e h' fun x' h'=>I x' h'∧μ x' h'<μ x h} (hr x h hI)) ⟨fun e h hk=>hk.2,?_,fun _ e h hk=>hk⟩⟩
      rintro k e h ⟨hag,hk⟩
      refine ⟨((ZEP hc.2).trans (hag.mono (ZCj hc.1))).mono fun s hs=>?_,hk⟩
      rw [Nat.testBit_or,Bool.or_self] at hs; exact hs
     ·exact hk.elim
 | exit id=>intro a env h C hk; exact ⟨Agr.refl _ _,hk⟩
 | ret=>intro a env h C hk; exact hk
 | scope c ih=>intro a env h C hk; exact hk.elim
 | goto l=>intro a env h C hk; exact hk.elim
 | refuse s=>intro a env h C hk; exact hk.elim
 | rangeFunc f p x y=>intro a env h C hk; exact hk.elim
end
end Go.Eng
