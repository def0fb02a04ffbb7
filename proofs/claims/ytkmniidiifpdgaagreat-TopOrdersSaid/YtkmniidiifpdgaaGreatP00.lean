/- Made by program: of our texts what this law needs (Eng.A Eng.B Eng.C Eng.D Eng.E Eng.F Eng.G Eng.H Eng.I Eng.J Eng.K Eng.L Eng.M Eng.N Eng.NA Eng.O). -/
import Derived.Calls
import Derived.Recover
import Derived.Laws.Sem
import Derived.Laws.World
import Derived.Laws.Cells
import Derived.Laws.StructEq
import Derived.Laws.Slices
import Derived.Laws.MakeOwn
import Derived.Laws.BytesString
import Derived.Conc.LoneSelect
import Derived.Orders
set_option linter.unusedVariables false
namespace Go.Eng
def ZF7:Value->Bool
 | .agg _|.tuple _=>false
 | _=>true
abbrev Hp:=Nat->Option Obj
def Hp.le (h:Hp) (w:World):Prop:=∀ b o,h b=some o->w.heap[b]?=some o
def Hp.dj (h g:Hp):Prop:=∀ b,h b=none\/g b=none
def Hp.emp:Hp:=λ_=>none
def Hp.un (h g:Hp):Hp:=λb=>match h b with|some o=>some o|none=>g b
def Hp.one (b:Nat) (o:Obj):Hp:=λb'=>if b'=b then some o else none
def Hp.upd (h:Hp) (b:Nat) (o:Obj):Hp:=λb'=>if b'=b then some o else h b'
structure ZF0 (w w':World):Prop where
 os:w'.os=w.os
 tape:w'.tape=w.tape
 output:w'.output=w.output
theorem ZF0.refl (w:World):ZF0 w w:=⟨rfl,rfl,rfl⟩
theorem ZF0.trans {a b c:World} (h:ZF0 a b) (k:ZF0 b c):ZF0 a c:=⟨k.os.trans h.os,k.tape.trans h.tape,k.output.trans h.output⟩
def ZHt (P:Program) (f:FuncId) (args:Array Value) (h:Hp) (R:Value->Hp->Prop):Prop:=
 ∀ (w:World) (fr:Hp),h.le w->fr.le w->h.dj fr->
  Calls P f args w λe w'=>∃ v h',e=.returned v/\R v h'/\h'.le w'/\fr.le w'/\h'.dj fr/\ZF0 w w'
def ZSc (P:Program) (f:FuncId) (args:Array Value) (h:Hp) (R S:Value->Hp->Prop):Prop:=
 ∀ (w:World) (fr:Hp),h.le w->fr.le w->h.dj fr->
  Calls P f args w λe w'=>∃ v h',((e=.returned v/\R v h')\/(e=.panicked [{v,recovered:=false}]/\S v h'))/\h'.le w'/\fr.le w'/\h'.dj fr/\ZF0 w w'
def ZWM (P:Program) (f:FuncId) (args:Array Value) (u u':FrameMode) (h:Hp) (R:Hp->Prop):Prop:=
 ∀ (w:World) (fr:Hp),h.le w->fr.le w->h.dj fr->
  CallsD P f args u w λe u2 w'=>∃ v h',e=.returned v/\u2=u'/\R h'/\h'.le w'/\fr.le w'/\h'.dj fr/\ZF0 w w'
theorem ZHt.mono {P:Program} {f:FuncId} {args:Array Value} {h:Hp} {R R':Value->Hp->Prop} (s:ZHt P f args h R)
 (hr:∀ v h',R v h'->R' v h'):ZHt P f args h R':=λw fr a b c=>
 (s w fr a b c).mono λ_ _ ⟨v,h',he,hR,rest⟩=>⟨v,h',he,hr _ _ hR,rest⟩
theorem Hp.dj_symm {h g:Hp} (d:h.dj g):g.dj h:=λb=>(d b).symm
theorem Hp.un_le {h g:Hp} {w:World} (a:h.le w) (b:g.le w):(h.un g).le w:=by
 intro k o hk;unfold Hp.un at hk;split at hk
 .rename_i o' e; cases hk; exact a k _ e
 .exact b k o hk
theorem Hp.un_dj {h g fr:Hp} (a:h.dj fr) (b:g.dj fr):(h.un g).dj fr:=by
 intro k;rcases a k with e|e
 .rcases b k with e'|e'
  .left; simp [Hp.un,e,e']
  .right; exact e'
 .right; exact e
theorem Hp.dj_un {h g fr:Hp} (a:h.dj g) (b:h.dj fr):h.dj (g.un fr):=Hp.dj_symm (Hp.un_dj (Hp.dj_symm a) (Hp.dj_symm b))
theorem Hp.le_un_left {h g:Hp} {w:World} (a:(h.un g).le w):h.le w:=by intro k o hk;exact a k o (by simp [Hp.un,hk])
theorem Hp.le_un_right {h g:Hp} {w:World} (d:h.dj g) (a:(h.un g).le w):g.le w:=by
 intro k o hk;rcases d k with e|e
 .exact a k o (by simp [Hp.un,e,hk])
 .rw [hk] at e; cases e
theorem Hp.dj_un_left {h g fr:Hp} (a:(h.un g).dj fr):h.dj fr:=by
 intro k;rcases a k with e|e
 .left;unfold Hp.un at e;split at e
  .cases e
  .assumption
 .exact .inr e
theorem Hp.dj_un_right {h g fr:Hp} (a:(h.un g).dj fr):g.dj fr:=by
 intro k;rcases a k with e|e
 .left;unfold Hp.un at e;split at e
  .cases e
  .exact e
 .exact .inr e
@[simp] theorem Hp.emp_un (h:Hp):Hp.emp.un h=h:=rfl
@[simp] theorem Hp.un_emp (h:Hp):h.un Hp.emp=h:=by funext b; unfold Hp.un Hp.emp; cases h b<;>rfl
theorem ZHt.frame {P:Program} {f:FuncId} {args:Array Value} {h g:Hp} {R:Value->Hp->Prop} (s:ZHt P f args h R) (d:h.dj g):
 ZHt P f args (h.un g) λv h'=>∃ h₁,R v h₁/\h'=h₁.un g/\h₁.dj g:=by
 intro w fr hle frle dj;refine (s w (g.un fr) (Hp.le_un_left hle) (Hp.un_le (Hp.le_un_right d hle) frle) (Hp.dj_un d (Hp.dj_un_left dj))).mono ?_;rintro e w' ⟨v,h',he,hR,a,b,c,sm⟩;have dgf:g.dj fr:=Hp.dj_un_right dj;have c1:h'.dj g:=Hp.dj_symm (Hp.dj_un_left (Hp.dj_symm c));have c2:h'.dj fr:=Hp.dj_symm (Hp.dj_un_right (Hp.dj_symm c));exact ⟨v,h'.un g,he,⟨h',hR,rfl,c1⟩,Hp.un_le a (Hp.le_un_left b),Hp.le_un_right dgf b,Hp.un_dj c2 dgf,sm⟩
theorem Hp.upd_le {h:Hp} {w:World} (a:h.le w) (o:Obj):(h.upd w.heap.size o).le (w.alloc o):=by
 intro k o' hk;unfold Hp.upd at hk;split at hk
 .rename_i e; subst e; cases hk; show (w.heap.push o)[w.heap.size]?=_; simp
 .rename_i e;have:=a k o' hk;rw [World.alloc]; show (w.heap.push o)[k]?=_;rw [Array.getElem?_push,if_neg (by omega)]; exact this
theorem Hp.le_lt {h:Hp} {w:World} (a:h.le w) {k:Nat} (hk:w.heap.size<=k):h k=none:=by
 cases e:h k with
 | none=>rfl
 | some o=>have:=a k o e; rw [Array.getElem?_eq_none hk] at this; cases this
theorem Hp.le_alloc {h:Hp} {w:World} (a:h.le w) (o:Obj):h.le (w.alloc o):=by
 intro k o' hk;have h1:=a k o' hk;have:k<w.heap.size:=by
  rcases Nat.lt_or_ge k w.heap.size with h'|h'
  .exact h'
  .rw [Array.getElem?_eq_none h'] at h1; cases h1
 rw [World.alloc]; show (w.heap.push o)[k]?=_;rw [Array.getElem?_push,if_neg (by omega)]; exact h1
theorem Hp.upd_dj {h fr:Hp} (d:h.dj fr) {b:Nat} (hb:fr b=none) (o:Obj):(h.upd b o).dj fr:=by
 intro k;by_cases e:k=b
 .subst e; exact .inr hb
 .simp only [Hp.upd,if_neg e]; exact d k
def Hp.cell? (h:Hp) (a:Addr):Option Value:=
 match h a.block with
 | some (.cells c _ _)=>if a.spot.isSome then none else c[a.off]?
 | _=>none
def Hp.frozen? (h:Hp) (a:Addr):Bool:=
 match h a.block with
 | some (.cells _ _ (lo,hi))=>lo<=a.off&&a.off<hi
 | _=>false
def ZNQ (a:Addr) (v:Value):Obj->Obj
 | .cells c e fz=>.cells (if a.spot.isSome then c else c.setIfInBounds a.off v) e fz
 | o=>o
def Hp.setCell (h:Hp) (a:Addr) (v:Value):Hp:=λb=>if b=a.block then (h b).map (ZNQ a v) else h b
theorem Hp.cell?_le {h:Hp} {w:World} (l:h.le w) {a:Addr} {v:Value} (e:h.cell? a=some v):w.cell? a=some v:=by
 unfold Hp.cell? at e;unfold World.cell?;cases hb:h a.block with
 | none=>rw [hb] at e; cases e
 | some o=>rw [hb] at e; rw [l _ _ hb]; exact e
theorem Hp.frozen?_le {h:Hp} {w:World} (l:h.le w) {a:Addr} {v:Value} (e:h.cell? a=some v):w.frozen? a=h.frozen? a:=by
 unfold Hp.cell? at e;unfold World.frozen? Hp.frozen?;cases hb:h a.block with
 | none=>rw [hb] at e; cases e
 | some o=>rw [l _ _ hb]; cases o<;>rfl
theorem World.heap_setCell (w:World) (a:Addr) (v:Value) (k:Nat):(w.setCell a v).heap[k]?=if k=a.block then (w.heap[k]?).map (ZNQ a v) else w.heap[k]?:=by
 simp only [World.setCell,Array.getElem?_modify];by_cases e:a.block=k
 .subst e;simp only [if_true];cases w.heap[a.block]? with
  | none=>rfl
  | some o=>cases o<;>rfl
 .rw [if_neg e,if_neg (by omega)]
theorem Hp.setCell_le {h:Hp} {w:World} (l:h.le w) (a:Addr) (v:Value):(h.setCell a v).le (w.setCell a v):=by
 intro k o hk;rw [World.heap_setCell];unfold Hp.setCell at hk;split at hk
 .rename_i e;rw [if_pos e];cases hb:h k with
  | none=>rw [hb] at hk; cases hk
  | some o'=>rw [hb] at hk; rw [l _ _ hb]; exact hk
 .rename_i e; rw [if_neg e]; exact l _ _ hk
theorem Hp.setCell_none {h:Hp} {a:Addr} {v:Value} {b:Nat}:(h.setCell a v) b=none↔h b=none:=by unfold Hp.setCell;split<;>simp
theorem Hp.cell_block {h:Hp} {a:Addr} {v:Value} (e:h.cell? a=some v):h a.block≠none:=by unfold Hp.cell? at e;intro hn; rw [hn] at e; cases e
def Hp.rds (h:Hp) (a:Addr) (cs:List Value):Prop:=∀ i v,cs[i]?=some v->h.cell? (a.add i)=some v
def Hp.wrs (h:Hp) (a:Addr):Nat->List Value->Hp
 | _,[]=>h
 | i,v::l=>(h.setCell (a.add i) v).wrs a (i+1) l
structure Cdc:Type 1 where
 T:Type
 enc:T->Value
 dec:Value->Option T
 agg:Bool
 n:Nat
 law:∀ v x,dec v=some x->enc x=v
 ecd:∀ x,dec (enc x)=some x
 mem:Bool
 form:mem=true->∀ x,if agg then ∃ cs:List Value,enc x=.agg cs.toArray/\cs.length=n/\∀ c∈cs,ZF7 c=true else ZF7 (enc x)=true/\n=1
inductive EV where
 | val (v:Value)
 | box (cs:List Value)
 | ref (off:Nat)
 | unk
abbrev Env:=Nat->EV
structure Ann:Type 1 where
 prom:Nat:=0
 refs:List (Nat×Nat):=[]
 dyn:Nat:=0
 bcd:Nat->Option Cdc:=λ_=>none
 eqs:TypeId->Bool:=λ_=>false
 cdc:TypeId->Option Cdc
 res:FuncId->Option Cdc
 pure:FuncId->Bool:=λ_=>false
 pan:FuncId->Bool:=λ_=>false
 defs:List Deferred:=[]
 fnv:Nat->Option Cdc:=λ_=>none
def ZJV:List (Nat×Nat)->Nat->Option Nat
 | [],_=>none
 | (s,t)::l,k=>bif Nat.beq k s then some t else ZJV l k
def Ann.refOf (A:Ann) (s:Nat):Option Nat:=ZJV A.refs s
def Ann.isProm (A:Ann) (s:Nat):Bool:=A.prom.testBit s
def Ann.isLocal (A:Ann) (s:Nat):Bool:=A.isProm s||(A.refOf s).isSome
def ZAT:Option Nat->Nat->Bool
 | some a,b=>Nat.beq a b
 | none,_=>false
def put (A:Ann) (env:Env) (dst:Option Tmp) (e:EV):Env:=
 match dst with
 | none=>env
 | some d=>λs=>bif Nat.beq s d then e else bif A.isProm d&&ZAT (A.refOf s) d then .unk else env s
inductive LV where
 | v (x:Value)
 | r (t off:Nat) (cs:List Value)
 | no
def ZRF (t off:Nat):EV->LV
 | .box cs=>.r t off cs
 | _=>.no
def look (A:Ann) (env:Env):Operand→LV
 | .tmp t=>match env t with
   | .val v=>.v v
   | .box cs=>.r t 0 cs
   | .ref off=>match A.refOf t with
     | some t'=>bif A.isProm t' then ZRF t' off (env t') else .no
     | none=>.no
   | .unk=>.no
 | .const v=>.v v
 | .func f=>.v (.func (.func f) #[] #[])
 | .global _=>.no
abbrev ZB (b:Bool) (X Y:Prop):Prop:=cond b X Y
def ZR (p:Option Addr) (K:Addr->Prop):Prop:=
 match p with
 | some a=>K a
 | none=>False
def Zl (a:Option Addr) (len:Nat) (i:Int) (K:Addr->Prop):Prop:=0<=i/\i<len/\ZR a K
def atP (len:Nat) (i:Int) (K:Prop):Prop:=0<=i/\i<len/\K
def ZC (c:Cdc) (a:Addr) (h:Hp) (K:c.T->Prop):Prop:=∃ x,h.rds a (c.enc x).cells.toList/\K x
def Hp.may (h:Hp) (a:Addr) (n:Nat):Prop:=∀ i,i<n->(∃ v,h.cell? (a.add i)=some v)/\h.frozen? (a.add i)=false
def ZV (c:Cdc) (a:Addr) (x:c.T) (h:Hp) (K:Hp->Prop):Prop:=h.may a c.n/\K (h.wrs a 0 (c.enc x).cells.toList)
def ZM (o:Obj) (h:Hp) (K:Nat->Hp->Prop):Prop:=∀ b,h b=none->K b (h.upd b o)
def ZA (P:Program) (f:FuncId) (args:List Value) (c:Cdc) (h:Hp) (K:c.T->Hp->Prop):Prop:=
 ZHt P f args.toArray h λv h'=>∃ x,v=c.enc x/\K x h'
def ZEu (P:Program) (f:FuncId) (args:List Value) (c:Cdc) (h:Hp) (K:c.T->Hp->Prop) (S:Value->Hp->Prop):Prop:=
 ZSc P f args.toArray h (λv h'=>∃ x,v=c.enc x/\K x h') S
def ZBw (P:Program) (f:FuncId) (args:List Value) (v:Option Value) (h:Hp) (K:Hp->Prop):Prop:=
 match v with
 | none=>ZWM P f args.toArray .returning .returning h K
 | some v=>ZWM P f args.toArray (.panicking [{v,recovered:=false}]) (.panicking [{v,recovered:=true}]) h K
def ZRZ (P:Program) (f:FuncId) (args:List Value) (c:Cdc) (K:c.T->Prop):Prop:=
 ∃ x,ZHt P f args.toArray Hp.emp (λv h'=>v=c.enc x/\h'=Hp.emp)/\K x
def Zao (lo:Option Int) (h:Nat):Option Nat→Prop
 | some l=>match lo with
   | some i=>0<=i/\i<=h/\l=i.toNat
   | none=>l=0
 | none=>False
def ZAI (len cap:Nat) (lo hi:Option Int) (K:Nat->Nat->Prop):Prop:=
 match hi,lo with
 | some j,some i=>0<=i/\i<=j/\j<=cap/\K i.toNat j.toNat
 | some j,none=>0<=j/\j<=cap/\K 0 j.toNat
 | none,some i=>0<=i/\i<=len/\K i.toNat len
 | none,none=>K 0 len
def ZIA (cap:Nat) (lo:Option Int) (hi mx:Int) (K:Nat->Nat->Nat->Prop):Prop:=
 mx<=cap/\hi<=mx/\0<=hi/\match lo with
 | some i=>0<=i/\i<=hi/\K i.toNat hi.toNat mx.toNat
 | none=>K 0 hi.toNat mx.toNat
def ZBV (P:Program) (g:FuncId) (first captured:Array Value) (l:List Value) (c:Cdc) (h:Hp) (K:c.T->Hp->Prop):Prop:=
 (∃ fn body,P.funcs[g]?=some fn/\fn.body=some body)/\ZA P g (first.toList++(l++captured.toList)) c h K
def ZMm (c:Cdc) (k:IntKind) (l:List (Int×c.T×Nat)) (clock:Nat):Obj:=.map (l.map λe=>{key:=.int k e.1,val:=c.enc e.2.1,born:=e.2.2}).toArray clock
def ZP5 {c:Cdc} (z:c.T) (n:Int):List (Int×c.T×Nat)->c.T
 | []=>z
 | e::l=>if n=e.1 then e.2.1 else ZP5 z n l
def ZVs (c:Cdc) (k:IntKind) (m:Option Nat) (n:Int) (z:c.T) (h:Hp) (K:c.T->Prop):Prop:=
 ∃ r l clock,m=some r/\h r=some (ZMm c k l clock)/\K (ZP5 z n l)
def ZY5 (c:Cdc) (k:IntKind) (m:Option Nat) (n:Int) (v:c.T) (h:Hp) (K:Hp->Prop):Prop:=
 ∃ r l clock,m=some r/\h r=some (ZMm c k l clock)/\(∀ e∈l,n≠e.1)/\K (h.upd r (ZMm c k (l++[(n,v,clock)]) (clock+1)))
def ZOT (P:Program) (g:FuncId) (args:List Value) (c:Cdc) (h:Hp) (K:c.T->Prop):Prop:=
 ∃ x,(∀ w,h.le w->(callFunc g args.toArray).run P w=.ok (.value (c.enc x)) w)/\K x
def ZYN (A:Ann):Operand->Option Cdc
 | .tmp t=>A.fnv t
 | _=>none
def ZIt:List Value->Bool
 | []=>true
 | v::l=>ZF7 v&&ZIt l
def ZFD (cs:List Value) (off:Nat) (vs:List Value):List Value:=cs.take off++(vs++cs.drop (off+vs.length))
def ZDH (k:IntKind) (x y:Int):Int:=k.wrap ((BitVec.ofInt k.bits x &&& BitVec.ofInt k.bits y).toNat:Int)
def orI (k:IntKind) (x y:Int):Int:=k.wrap ((BitVec.ofInt k.bits x ||| BitVec.ofInt k.bits y).toNat:Int)
def ZPa (k:IntKind) (x y:Int):Int:=k.wrap ((BitVec.ofInt k.bits x ^^^ BitVec.ofInt k.bits y).toNat:Int)
def ZGP (k:IntKind) (x y:Int):Int:=k.wrap ((BitVec.ofInt k.bits x &&& ~~~BitVec.ofInt k.bits y).toNat:Int)
def ZLw (k:IntKind) (x y:Int):Int:=k.wrap (x*2 ^ (min y.toNat k.bits))
def ZBT (k:IntKind) (x y:Int):Int:=x.fdiv (2 ^ (min y.toNat k.bits))
def ZXK (k:IntKind) (x y:Int):Int:=k.wrap (x.tdiv y)
def ZJy (x y:Int):Int:=if y<x then y else x
def ZVA (x y:Int):Int:=if y>x then y else x
def Zm (a:Option Addr) (l m size:Nat):Option Addr:=if m=l then a else a.map (·.add (l*size))
def ZJ9 (x y:ByteArray):Bool:=x.toList==y.toList
def ZIJ (P:Program) (t:TypeId) (xs:List Value) (off:Nat):Option Value:=
 match P.info? t with
 | some i=>match P.underlying t with
   | some (.struct _)=>some (.agg ((xs.drop off).take i.size).toArray)
   | some (.array _ _)=>some (.agg ((xs.drop off).take i.size).toArray)
   | some _=>xs[off]?
   | none=>none
 | none=>none
def ZWf (P:Program) (f:TypeId→Value→Value→Option Bool) (xs ys:List Value):List Field→Option Bool
 | []=>some true
 | [g]=>match ZIJ P g.type xs g.offset,ZIJ P g.type ys g.offset with
   | some x,some y=>f g.type x y
   | _,_=>none
 | g::gs=>match ZIJ P g.type xs g.offset,ZIJ P g.type ys g.offset with
   | some x,some y=>match f g.type x y,ZWf P f xs ys gs with
     | some r,some r'=>some (r&&r')
     | _,_=>none
   | _,_=>none
def ZZR (P:Program) (f:TypeId→Value→Value→Option Bool) (e n:Nat) (xs ys:List Value):List Nat→Option Bool
 | []=>some true
 | i::is=>match ZIJ P e xs (i*n),ZIJ P e ys (i*n) with
   | some x,some y=>match f e x y,ZZR P f e n xs ys is with
     | some r,some r'=>some (r&&r')
     | _,_=>none
   | _,_=>none
def eqI:Value→Value→Option Bool
 | .int j a,.int j' b=>match decide (j=j') with
   | true=>some (a==b)
   | false=>none
 | _,_=>none
def eqB:Value->Value->Option Bool
 | .bool a,.bool b=>some (a==b)
 | _,_=>none
def eqS:Value->Value->Option Bool
 | .string a,.string b=>some (ZJ9 a b)
 | _,_=>none
def ZCg:Value->Option (List Value)
 | .agg xs=>some xs.toList
 | _=>none
def eqV (P:Program):Nat→TypeId→Value→Value→Option Bool
 | 0,_,_,_=>none
 | d+1,t,x,y=>match P.underlying t with
   | some (.int _)=>eqI x y
   | some .bool=>eqB x y
   | some .string=>eqS x y
   | some (.struct fs)=>match ZCg x,ZCg y with
     | some xs,some ys=>ZWf P (eqV P d) xs ys fs.toList
     | _,_=>none
   | some (.array n e)=>match ZCg x,ZCg y with
     | some xs,some ys=>match P.info? e with
       | some i=>ZZR P (eqV P d) e i.size xs ys (List.range n)
       | none=>none
     | _,_=>none
   | _=>none
def ZVj (P:Program):Nat→TypeId→Bool
 | 0,_=>false
 | d+1,t=>match P.underlying t with
   | some (.int _)=>true
   | some .bool=>true
   | some .string=>true
   | some (.struct fs)=>!P.stoodInHeld t&&fs.toList.all λf=>f.name != "_" && ZVj P d f.type
   | some (.array _ e)=>ZVj P d e
   | _=>false
def ZYc (A:Ann) (P:Program) (op:BinOp) (t:TypeId) (x y:Value) (k:EV→Prop):Prop:=
 match x,y with
 | .int j a,.int j' b=>match op with
   | .shl=>0<=b/\k (.val (.int j (ZLw j a b)))
   | .shr=>0<=b/\k (.val (.int j (ZBT j a b)))
   | _=>match decide (j=j') with
     | false=>False
     | true=>match op with
       | .add=>k (.val (.int j (j.wrap (a+b))))
       | .sub=>k (.val (.int j (j.wrap (a-b))))
       | .mul=>k (.val (.int j (j.wrap (a*b))))
       | .quo=>b≠0/\k (.val (.int j (ZXK j a b)))
       | .rem=>b≠0/\k (.val (.int j (a.tmod b)))
       | .and=>k (.val (.int j (ZDH j a b)))
       | .or=>k (.val (.int j (orI j a b)))
       | .xor=>k (.val (.int j (ZPa j a b)))
       | .andNot=>k (.val (.int j (ZGP j a b)))
       | .eql=>k (.val (.bool (a==b)))
       | .neq=>k (.val (.bool (a != b)))
       | .lss=>k (.val (.bool (decide (a<b))))
       | .leq=>k (.val (.bool (decide (a<=b))))
       | .gtr=>k (.val (.bool (decide (a>b))))
       | .geq=>k (.val (.bool (decide (a>=b))))
       | _=>False
 | .bool a,.bool b=>match op,P.underlying t with
   | .eql,some .bool=>k (.val (.bool (a==b)))
   | .neq,some .bool=>k (.val (.bool (!(a==b))))
   | _,_=>False
 | .string a,.string b=>match op with
   | .eql=>k (.val (.bool (ZJ9 a b)))
   | .neq=>k (.val (.bool (!ZJ9 a b)))
   | _=>False
 | .pointer p,.pointer none=>match op,P.underlying t with
   | .eql,some (.pointer _)=>k (.val (.bool p.isNone))
   | .neq,some (.pointer _)=>k (.val (.bool (!p.isNone)))
   | _,_=>False
 | .slice a _ _,.slice none _ _=>match op,P.underlying t with
   | .eql,some (.slice _)=>k (.val (.bool a.isNone))
   | .neq,some (.slice _)=>k (.val (.bool (!a.isNone)))
   | _,_=>False
 | .agg xs,.agg ys=>bif A.eqs t then
    (match op,eqV P 20 t (.agg xs) (.agg ys) with
    | .eql,some r=>k (.val (.bool r))
    | .neq,some r=>k (.val (.bool (!r)))
    | _,_=>False)
   else False
 | _,_=>False
def moveL (A:Ann) (dst:Option Tmp) (l:LV) (k:EV→Prop):Prop:=
 match l with
 | .v v=>k (.val v)
 | .r t off _=>match dst with
   | some d=>bif ZAT (A.refOf d) t then k (.ref off) else k .unk
   | none=>k .unk
 | .no=>k .unk
def refTo (A:Ann) (dst:Option Tmp) (t off:Nat) (k:EV->Prop):Prop:=
 match dst with
 | some d=>bif ZAT (A.refOf d) t then k (.ref off) else False
 | none=>False
def ZH6 (ρ:Operand→LV):List Operand→Option (List Value)
 | []=>some []
 | x::l=>match ρ x with
   | .v v=>match ZH6 ρ l with
     | some vs=>some (v::vs)
     | none=>none
   | _=>none
def ZC9 (ρ:Operand→LV):List (Nat×Operand)→Option (List (Nat×Value))
 | []=>some []
 | (i,x)::l=>match ρ x with
   | .v v=>match ZC9 ρ l with
     | some vs=>some ((i,v)::vs)
     | none=>none
   | _=>none
def ZCU (P:Program) (t:TypeId):Bool:=
 match P.underlying t with
 | some (.struct _)=>true
 | some (.array _ _)=>true
 | _=>false
def ZDM (P:Program) (t:TypeId):Option Value:=
 match P.info? t with
 | some i=>i.zero
 | none=>none
def ZD4 (P:Program) (t:TypeId):Bool:=
 match P.info? t with
 | some i=>match i.zero with
   | some z=>Nat.beq z.cells.size i.size
   | none=>false
 | none=>false
def ZA2 (P:Program) (t:TypeId):Nat:=
 match P.info? t with
 | some i=>i.bytes
 | none=>0
def ZAu (P:Program) (t:TypeId):Option Nat:=
 match P.info? t with
 | some i=>some i.size
 | none=>none
def ZAt (P:Program) (c:Cdc) (t:TypeId):Bool:=
 c.mem&&(c.agg==ZCU P t)&&(match ZAu P t with|some n=>Nat.beq n c.n|none=>false)
def ZJS (agg:Bool) (n:Nat) (cs:List Value) (off:Nat) (k:EV→Prop):Prop:=
 match agg with
 | true=>bif Nat.ble (off+n) cs.length then k (.val (.agg ((cs.drop off).take n).toArray)) else False
 | false=>match cs[off]? with
   | some v=>k (.val v)
   | none=>False
def ZNb (c:Cdc) (cs:List Value) (off:Nat) (K:c.T->Prop):Prop:=∃ x,(∀ i v,(c.enc x).cells.toList[i]?=some v->cs[off+i]?=some v)/\K x
def ZSM (c:Cdc) (cs:List Value) (off:Nat) (vs:List Value) (K:c.T->Prop):Prop:=off+vs.length<=cs.length/\∃ x,(c.enc x).cells.toList=ZFD cs off vs/\K x
def Zan:Operand->Option Tmp
 | .tmp t=>some t
 | _=>none
def ZRa (A:Ann) (x:Operand):Bool:=
 match x with
 | .tmp t=>A.dyn.testBit t
 | _=>false
def ZKs (A:Ann) (x:Operand):Bool:=
 match x with
 | .tmp t=>A.isLocal t
 | _=>false
inductive Cls where
 | p|c|r|a|w
 deriving DecidableEq
def ZSd (P:Program) (t:TypeId):Bool:=
 match P.underlying t with
 | some (.chan _ _)=>true
 | _=>false
def cls (A:Ann) (P:Program) (o:Oper):Cls:=
 match o.op with
 | .load _ x=>bif ZKs A x then .p else .r
 | .store _ x _=>bif ZKs A x then .p else .w
 | .alloc _|.box _ _=>match o.dst with
   | some d=>bif A.isProm d then .p else .a
   | none=>.w
 | .buildSlice _ _ _=>.a
 | .makeSlice _ _ _|.makeChan _ _|.makeMap _ _=>.a
 | .convert src dst _=>match P.underlying src,P.underlying dst with
   | some (.int _),some (.int _)=>.p
   | some (.slice _),some .string=>.r
   | _,_=>.w
 | .call c=>match c.callee with
   | .builtin .len=>match c.argTypes[0]? with
     | some t=>bif ZSd P t then .r else .p
     | none=>.w
   | .builtin .min=>.p
   | .builtin .max=>.p
   | .value (.func g)=>bif A.pure g then .c else .w
   | _=>.w
 | .move _|.assign _|.pick _ _ _|.build _ _|.nilCheck _|.binOp _ _ _ _ _|.unOp _ _ _|.makeInterface _ _|.makeFunc _ _ _
 | .slice _ _ _ _ _|.fieldAddr _ _ _|.field _ _ _|.indexAddr _ _ _|.index _ _ _|.extract _ _=>.p
 | _=>.w
def ZA3 (A:Ann) (o:Oper):Option Tmp:=
 match o.op with
 | .store _ (.tmp t) _=>bif A.isProm t then some t else A.refOf t
 | _=>o.dst
def ZYM (P:Program) (fs:Array Field) (z:Array Value) (l:List (Nat×Value)):Option (Array Value):=
 bif fs.all (λf=>(ZAu P f.type).isSome) then Instr.fill (λi=>(fs[i]?).map λf=>(f.offset,P.cellsOf f.type)) z l else none
def ZYK (P:Program) (e:TypeId) (z:Array Value) (l:List (Nat×Value)):Option (Array Value):=
 match ZAu P e with
 | some n=>Instr.fill (λi=>some (i*n,n)) z l
 | none=>none
def opP (A:Ann) (P:Program) (o:Oper) (ρ:Operand→LV) (k:EV→Prop):Prop:=
 match o.op with
 | .move x=>moveL A o.dst (ρ x) k
 | .assign x=>moveL A o.dst (ρ x) k
 | .pick c a b=>match ρ c with
   | .v (.bool t)=>ZB t (moveL A o.dst (ρ a) k) (moveL A o.dst (ρ b) k)
   | _=>False
 | .alloc elem=>match ZDM P elem with
   | some z=>k (.box z.cells.toList)
   | none=>False
 | .box _ x=>match ρ x with
   | .v v=>k (.box v.cells.toList)
   | _=>False
 | .build t ps=>match ZC9 ρ ps.toList,ZDM P t,P.underlying t with
   | some l,some z,some (.struct fs)=>match ZYM P fs z.cells l with
     | some cs=>k (.val (.agg cs))
     | none=>False
   | some l,some z,some (.array _ e)=>match ZYK P e z.cells l with
     | some cs=>k (.val (.agg cs))
     | none=>False
   | _,_,_=>False
 | .nilCheck x=>match ρ x with
   | .v (.pointer p)=>ZR p λa=>k (.val (.pointer (some a)))
   | .v (.func (.func f) a b)=>k (.val (.func (.func f) a b))
   | .r t off _=>refTo A o.dst t off k
   | _=>False
 | .binOp op t x y _=>match ρ x,ρ y with
   | .v x,.v y=>ZYc A P op t x y k
   | _,_=>False
 | .unOp op _ x=>match op,ρ x with
   | .neg,.v (.int j n)=>k (.val (.int j (j.wrap (0-n))))
   | .not,.v (.bool b)=>k (.val (.bool (!b)))
   | _,_=>False
 | .convert src dst x=>match P.underlying src,P.underlying dst,ρ x with
   | some (.int _),some (.int j),.v (.int _ n)=>k (.val (.int j (j.wrap n)))
   | _,_,_=>False
 | .makeInterface t x=>match P.underlying t,ρ x with
   | some (.interface _),_=>False
   | some _,.v v=>k (.val (.iface t v))
   | _,_=>False
 | .makeFunc fn first captured=>match ZH6 ρ first.toList,ZH6 ρ captured.toList with
   | some l,some m=>k (.val (.func fn l.toArray m.toArray))
   | _,_=>False
 | .fieldAddr s x f=>match P.underlying s with
   | some (.struct fs)=>match fs[f]? with
     | some fd=>match ZAu P fd.type with
       | some (_+1)=>match ρ x with
         | .v (.pointer (some a))=>k (.val (.pointer (some (a.add fd.offset))))
         | .r t off _=>refTo A o.dst t (off+fd.offset) k
         | _=>False
       | _=>False
     | none=>False
   | _=>False
 | .field s x f=>match P.underlying s with
   | some (.struct fs)=>match fs[f]? with
     | some fd=>match ZAu P fd.type,ρ x with
       | some n,.v (.agg cs)=>ZJS (ZCU P fd.type) n cs.toList fd.offset k
       | _,_=>False
     | none=>False
   | _=>False
 | .load t x=>match ZAu P t,ρ x with
   | some n,.r _ off cs=>bif ZRa A x then
      match A.cdc t with
      | some c=>bif ZAt P c t then ZNb c cs off λy=>k (.val (c.enc y)) else False
      | none=>False
     else ZJS (ZCU P t) n cs off k
   | _,_=>False
 | .store t x y=>match ZAu P t,ρ x,ρ y,o.dst with
   | some n,.r bt off cs,.v v,none=>bif Nat.beq v.cells.size n&&ZIt v.cells.toList then
      (bif ZRa A x then
          match A.bcd bt with
          | some c=>ZSM c cs off v.cells.toList λz=>k (.box (c.enc z).cells.toList)
          | none=>False
      else bif Nat.ble (off+n) cs.length then k (.box (ZFD cs off v.cells.toList)) else False)
     else False
   | _,_,_,_=>False
 | .indexAddr t x ix=>match P.underlying t,ρ ix with
   | some (.slice e),.v (.int _ i)=>match ZAu P e,ρ x with
     | some n,.v (.slice a len _)=>Zl a len i λad=>k (.val (.pointer (some (ad.add (i.toNat*n)))))
     | _,_=>False
   | some (.array len e),.v (.int _ i)=>match ZAu P e,ρ x with
     | some n,.v (.pointer (some a))=>atP len i (k (.val (.pointer (some (a.add (i.toNat*n))))))
     | some n,.r t off _=>atP len i (refTo A o.dst t (off+i.toNat*n) k)
     | _,_=>False
   | _,_=>False
 | .index t x ix=>match P.underlying t,ρ x,ρ ix with
   | some .string,.v (.string s),.v (.int _ i)=>atP s.size i (k (.val (.int .u8 ((s.data.getD i.toNat 0).toNat:Int))))
   | _,_,_=>False
 | .slice t x lo hi mx=>match P.underlying t,ρ x with
   | some (.slice e),.v (.slice a len cap)=>match ZAu P e with
     | none=>False
     | some n=>match lo.map ρ,hi.map ρ,mx.map ρ with
       | none,none,none=>ZAI len cap none none λl h=>k (.val (.slice (Zm a l cap n) (h-l) (cap-l)))
       | some (.v (.int _ i)),none,none=>ZAI len cap (some i) none λl h=>k (.val (.slice (Zm a l cap n) (h-l) (cap-l)))
       | none,some (.v (.int _ j)),none=>ZAI len cap none (some j) λl h=>k (.val (.slice (Zm a l cap n) (h-l) (cap-l)))
       | some (.v (.int _ i)),some (.v (.int _ j)),none=>ZAI len cap (some i) (some j) λl h=>k (.val (.slice (Zm a l cap n) (h-l) (cap-l)))
       | some (.v (.int _ i)),some (.v (.int _ j)),some (.v (.int _ m))=>ZIA cap (some i) j m λl h m=>k (.val (.slice (Zm a l m n) (h-l) (m-l)))
       | none,some (.v (.int _ j)),some (.v (.int _ m))=>ZIA cap none j m λl h m=>k (.val (.slice (Zm a l m n) (h-l) (m-l)))
       | _,_,_=>False
   | some .string,.v (.string s)=>match lo.map ρ,hi.map ρ,mx with
      | some (.v (.int _ i)),none,none=>ZAI s.size s.size (some i) none λl h=>k (.val (.string (s.extract l h)))
      | none,some (.v (.int _ j)),none=>ZAI s.size s.size none (some j) λl h=>k (.val (.string (s.extract l h)))
      | some (.v (.int _ i)),some (.v (.int _ j)),none=>ZAI s.size s.size (some i) (some j) λl h=>k (.val (.string (s.extract l h)))
      | _,_,_=>False
   | some (.array n e),.v (.pointer (some a))=>match ZAu P e with
     | none=>False
     | some z=>match lo.map ρ,hi.map ρ,mx with
       | none,none,none=>ZAI n n none none λl h=>k (.val (.slice (Zm (some a) l n z) (h-l) (n-l)))
       | some (.v (.int _ i)),none,none=>ZAI n n (some i) none λl h=>k (.val (.slice (Zm (some a) l n z) (h-l) (n-l)))
       | none,some (.v (.int _ j)),none=>ZAI n n none (some j) λl h=>k (.val (.slice (Zm (some a) l n z) (h-l) (n-l)))
       | some (.v (.int _ i)),some (.v (.int _ j)),none=>ZAI n n (some i) (some j) λl h=>k (.val (.slice (Zm (some a) l n z) (h-l) (n-l)))
       | _,_,_=>False
   | _,_=>False
 | .extract x i=>match ρ x with
   | .v (.tuple vs)=>match vs[i]? with
     | some v=>k (.val v)
     | none=>False
   | _=>False
 | .call c=>match c.callee,c.argTypes[0]?,ZH6 ρ c.args.toList with
   | .builtin .len,some t,some [v]=>match P.underlying t,v with
     | some .string,.string s=>k (.val (.int .i64 (s.size:Int)))
     | some (.array n _),_=>k (.val (.int .i64 (n:Int)))
     | some (.slice _),.slice _ n _=>k (.val (.int .i64 (n:Int)))
     | _,_=>False
   | .builtin .min,_,some [.int j x,.int _ y]=>k (.val (.int j (ZJy x y)))
   | .builtin .max,_,some [.int j x,.int _ y]=>k (.val (.int j (ZVA x y)))
   | _,_,_=>False
 | _=>False
def opC (A:Ann) (P:Program) (o:Oper) (ρ:Operand→LV) (k:EV→Prop):Prop:=
 match o.op with
 | .call c=>match c.callee with
   | .value (.func g)=>match ZH6 ρ c.args.toList,A.res g,P.funcs[g]? with
     | some l,some r,some fn=>match fn.body with
       | some _=>ZRZ P g l r λy=>k (.val (r.enc y))
       | none=>False
     | _,_,_=>False
   | _=>False
 | _=>False
def ZI9 (xs:List Int):ByteArray:=xs.foldl (λs n=>s.push (UInt8.ofNat n.toNat)) ByteArray.empty
def ZDs (xs:List Int):List Value:=xs.map λn=>.int .u8 n
def ZX8 (a:Option Addr) (len:Nat) (h:Hp) (K:ByteArray->Prop):Prop:=
 match a with
 | none=>K ByteArray.empty
 | some a=>∃ xs:List Int,xs.length=len/\h.rds a (ZDs xs)/\K (ZI9 xs)
def ZaS (c:Option Nat) (h:Hp) (K:Int->Prop):Prop:=
 match c with
 | none=>K 0
 | some r=>∃ cap buf cl s r',h r=some (.chan cap buf cl s r' false)/\K (buf.size:Int)
def opR (A:Ann) (P:Program) (o:Oper) (ρ:Operand→LV) (h:Hp) (k:EV→Prop):Prop:=
 match o.op with
 | .load t x=>match A.cdc t,ρ x with
   | some c,.v (.pointer (some a))=>bif ZAt P c t then ZC c a h λy=>k (.val (c.enc y)) else False
   | _,_=>False
 | .convert src dst x=>match P.underlying src,P.underlying dst,ρ x with
   | some (.slice e),some .string,.v (.slice a len _)=>match P.underlying e with
     | some (.int .u8)=>ZX8 a len h λs=>k (.val (.string s))
     | _=>False
   | _,_,_=>False
 | .call c=>match c.callee,c.argTypes[0]?,ZH6 ρ c.args.toList with
   | .builtin .len,some t,some [.chan r]=>bif ZSd P t then ZaS r h λn=>k (.val (.int .i64 n)) else False
   | _,_,_=>False
 | _=>False
def Z3 (n:Nat) (zs:List Value):List Value:=(List.replicate n zs).flatten
def ZEG (n m:Int) (bytes:Nat) (K:Prop):Prop:=0<=n/\n<=m/\m<=1099511627776/\(bytes:Int)*m<=1099511627776/\K
def ZRz (n:Int) (bytes:Nat) (K:Prop):Prop:=0<=n/\n<=1099511627776/\(bytes:Int)*n<=1099511627776/\K
def opA (P:Program) (o:Oper) (ρ:Operand→LV) (k:Obj→(Nat→Value)→Prop):Prop:=
 match o.op with
 | .alloc elem=>match ZDM P elem with
   | some z=>k (.cells z.cells elem) λb=>.pointer (some ⟨b,0,none⟩)
   | none=>False
 | .box elem x=>match ρ x with
   | .v v=>k (.cells v.cells elem) λb=>.pointer (some ⟨b,0,none⟩)
   | _=>False
 | .buildSlice t len ps=>match P.underlying t,ZC9 ρ ps.toList with
   | some (.slice e),some l=>match ZAu P e,ZDM P e with
     | some n,some z=>bif Nat.ble (len*n) 16777216 then
          (match Instr.fill (λi=>some (i*n,n)) ((Array.range (len*n)).map (z.cells[· % z.cells.size]!)) l with
          | some cs=>k (.cells cs e) λb=>.slice (some ⟨b,0,none⟩) len len
          | none=>False)
       else False
     | _,_=>False
   | _,_=>False
 | .makeSlice t l c=>match P.underlying t,ρ l,ρ c with
   | some (.slice e),.v (.int _ n),.v (.int _ m)=>match ZDM P e with
     | some z=>bif ZD4 P e then ZEG n m (ZA2 P e) (k (.cells (Z3 m.toNat z.cells.toList).toArray e) λb=>.slice (some ⟨b,0,none⟩) n.toNat m.toNat) else False
     | none=>False
   | _,_,_=>False
 | .makeChan t n=>match P.underlying t,ρ n with
   | some (.chan _ e),.v (.int _ n)=>match ZAu P e with
     | some _=>ZRz n (ZA2 P e) (k (.chan n.toNat #[] false 0 0 false) λb=>.chan (some b))
     | none=>False
   | _,_=>False
 | .makeMap t r=>match r,P.underlying t with
   | none,some (.map _ _)=>k (.map #[] 0) λb=>.map (some b)
   | _,_=>False
 | _=>False
def ZG (c:Cdc) (xs:List c.T):List Value:=xs.flatMap λx=>(c.enc x).cells.toList
def ZCM (c:Cdc) (a:Option Addr) (len:Nat) (h:Hp) (K:List c.T->Prop):Prop:=
 match a with
 | none=>len=0/\K []
 | some a=>∃ xs:List c.T,xs.length=len/\h.rds a (ZG c xs)/\K xs
def ZAR:Nat:=1099511627776
def ZX (c:Cdc) (e:TypeId) (bytes:Nat) (a:Option Addr) (len cap:Nat) (b:Option Addr) (n:Nat) (h:Hp) (K:Option Addr→Nat→Nat→Hp→Prop):Prop:=
 ZCM c b n h fun ys=>
  (len+n<=cap->match a with
    | some ad=>h.may (ad.add (len*c.n)) (n*c.n)/\K a (len+n) cap (h.wrs (ad.add (len*c.n)) 0 (ZG c ys))
    | none=>K a (len+n) cap h)/\
  (cap<len+n→(len+n)*bytes≤ZAR∧ZCM c a len h fun xs=>
    ∀ nc pad,len+n<=nc->pad.length=(nc-(len+n))*c.n->
     ZM (.cells (ZG c xs++(ZG c ys++pad)).toArray e) h λnb h'=>K (some ⟨nb,0,none⟩) (len+n) nc h')
def ZHp (c:Cdc) (z:c.T) (e:TypeId) (bytes:Nat) (a:Option Addr) (len cap:Nat) (n:Int) (h:Hp) (K:Option Addr→Nat→Nat→Hp→Prop):Prop:=
 0≤n∧n.toNat*bytes≤ZAR∧
  (len+n.toNat<=cap->match a with
    | some ad=>h.may (ad.add (len*c.n)) (n.toNat*c.n)/\K a (len+n.toNat) cap (h.wrs (ad.add (len*c.n)) 0 (ZG c (List.replicate n.toNat z)))
    | none=>K a (len+n.toNat) cap h)/\
  (cap<len+n.toNat→(len+n.toNat)*bytes≤ZAR∧ZCM c a len h fun xs=>
    ∀ nc pad,len+n.toNat<=nc->pad.length=(nc-len)*c.n->
     ZM (.cells (ZG c xs++pad).toArray e) h λnb h'=>K (some ⟨nb,0,none⟩) (len+n.toNat) nc h')
def ZBG (c:Cdc) (a:Option Addr) (len:Nat) (b:Option Addr) (n:Nat) (h:Hp) (K:Int->Hp->Prop):Prop:=
 ZCM c b (min n len) h λys=>match a with
  | some ad=>h.may ad (min n len*c.n)/\K (min n len:Nat) (h.wrs ad 0 (ZG c ys))
  | none=>K (min n len:Nat) h
def ZEC (c:Cdc) (z:c.T) (a:Option Addr) (n:Nat) (h:Hp) (K:Hp->Prop):Prop:=
 match a with
 | some ad=>h.may ad (n*c.n)/\K (h.wrs ad 0 (ZG c (List.replicate n z)))
 | none=>K h
def ZNZ (e:TypeId) (s:ByteArray) (h:Hp) (K:Nat->Nat->Hp->Prop):Prop:=
 ∀ cap pad b,s.size<=cap->pad.length=cap-s.size->h b=none->
  K b cap (h.upd b (.cells (ZDs (s.data.toList.map λx=>(x.toNat:Int))++pad).toArray e (cap,cap+1)))
def frz (n:Nat):Nat×Nat->Nat×Nat
 | (lo,hi)=>if lo==hi then (n,n+1) else (min lo n,max hi (n+1))
def ZZu (a:Addr) (h:Hp) (K:Hp->Prop):Prop:=
 ∃ c e fz,h a.block=some (.cells c e fz)/\K (h.upd a.block (.cells c e (frz c.size fz)))
def ZYO (c:Option Nat) (v:Value) (h:Hp) (Kn:Prop) (Ks:Hp->Prop):Prop:=
 match c with
 | none=>Kn
 | some r=>∃ cap buf s r',h r=some (.chan cap buf false s r' false)/\(cap<=buf.size->Kn)/\(buf.size<cap->Ks (h.upd r (.chan cap (buf.push v) false (s+1) r' false)))
def ZYH (cd:Cdc) (c:Option Nat) (h:Hp) (Kn:Prop) (Ks:cd.T→Hp→Prop):Prop:=
 match c with
 | none=>Kn
 | some r=>∃ cap l s r',h r=some (.chan cap (List.toArray l) false s r' false)/\match l with
   | []=>Kn
   | v::l=>∃ x,v=cd.enc x/\Ks x (h.upd r (.chan cap (List.toArray l) false s (r'+1) false))
def opW (A:Ann) (P:Program) (o:Oper) (ρ:Operand→LV) (h:Hp) (k:EV→Hp→Prop):Prop:=
 match o.op with
 | .store t x y=>match A.cdc t,ρ x,ρ y with
   | some c,.v (.pointer (some a)),.v v=>bif ZAt P c t then
      (match c.dec v with
      | some z=>ZV c a z h λh'=>k .unk h'
      | none=>False)
     else False
   | _,_,_=>False
 | .call c=>match c.callee,ZH6 ρ c.args.toList with
   | .value f,some l=>match ρ f with
     | .v (.func (.func g) first captured)=>match ZYN A f with
       | some r=>ZBV P g first captured l r h λy h'=>k (.val (r.enc y)) h'
       | none=>match A.res g with
       | some r=>match P.funcs[g]? with
         | some fn=>match fn.body with
           | some _=>ZA P g (first.toList++(l++captured.toList)) r h λy h'=>k (.val (r.enc y)) h'
           | none=>ZOT P g (first.toList++(l++captured.toList)) r h λy=>k (.val (r.enc y)) h
         | none=>False
       | none=>False
     | _=>False
   | .builtin .append,some [.slice a len cap,.slice b n _]=>match c.argTypes[0]?,c.argTypes[1]? with
     | some t,some u=>match P.underlying t,P.underlying u with
       | some (.slice e),some (.slice _)=>match A.cdc e with
         | some cd=>bif ZAt P cd e&&(Nat.ble 1 (ZA2 P e)&&(Nat.ble (ZA2 P e) 1048576&&ZD4 P e)) then
            ZX cd e (ZA2 P e) a len cap b n h λa' l' c' h'=>k (.val (.slice a' l' c')) h'
           else False
         | none=>False
       | _,_=>False
     | _,_=>False
   | .builtin .copy,some [.slice a len _,.slice b n _]=>match c.argTypes[0]? with
     | some t=>match P.underlying t with
       | some (.slice e)=>match A.cdc e with
         | some cd=>bif ZAt P cd e then ZBG cd a len b n h λm h'=>k (.val (.int .i64 m)) h' else False
         | none=>False
       | _=>False
     | none=>False
   | .builtin .clear,some [.slice a n _]=>match c.argTypes[0]? with
     | some t=>match P.underlying t with
       | some (.slice e)=>match A.cdc e,ZDM P e with
         | some cd,some z=>bif ZAt P cd e then
            (match cd.dec z with
            | some z=>ZEC cd z a n h λh'=>k (.val (.tuple #[])) h'
            | none=>False)
           else False
         | _,_=>False
       | _=>False
     | none=>False
   | _,_=>False
 | .convert src dst x=>match P.underlying src,P.underlying dst,ρ x with
   | some .string,some (.slice e),.v (.string s)=>match P.underlying e with
     | some (.int .u8)=>ZNZ e s h λb cap h'=>k (.val (.slice (some ⟨b,0,none⟩) s.size cap)) h'
     | _=>False
   | some (.slice _),some (.slice e),.v (.slice (some a) len cap)=>match P.underlying e with
     | some (.int .u8)=>bif Nat.beq src dst then ZZu a h λh'=>k (.val (.slice (some a) len cap)) h' else False
     | _=>False
   | _,_,_=>False
 | .select cs block=>match block,cs with
   | false,⟨[sc]⟩=>match sc.send with
     | none=>match A.cdc sc.elem,ZDM P sc.elem,ρ sc.chan with
       | some c,some z,.v (.chan r)=>ZYH c r h (k (.val (.tuple #[.int .i64 (-1),.bool false,z])) h) λx h'=>k (.val (.tuple #[.int .i64 0,.bool true,c.enc x])) h'
       | _,_,_=>False
     | some x=>match ZDM P sc.elem,ρ sc.chan,ρ x with
       | some _,.v (.chan r),.v v=>ZYO r v h (k (.val (.tuple #[.int .i64 (-1),.bool false])) h) λh'=>k (.val (.tuple #[.int .i64 0,.bool false])) h'
       | _,_,_=>False
   | _,_=>False
 | .lookup t x ix ok=>match ok,P.underlying t with
   | false,some (.map kt et)=>match P.underlying kt,A.cdc et,ZDM P et with
     | some (.int kk),some c,some z=>match ρ x,ρ ix with
       | .v (.map m),.v (.int k' n)=>match decide (kk=k'),c.dec z with
         | true,some zz=>ZVs c kk m n zz h λy=>k (.val (c.enc y)) h
         | _,_=>False
       | _,_=>False
     | _,_,_=>False
   | _,_=>False
 | .mapUpdate t x ix y=>match P.underlying t with
   | some (.map kt et)=>match P.underlying kt,A.cdc et with
     | some (.int kk),some c=>match ρ x,ρ ix,ρ y with
       | .v (.map m),.v (.int k' n),.v v=>match decide (kk=k'),c.dec v with
         | true,some vv=>ZY5 c kk m n vv h λh'=>k .unk h'
         | _,_=>False
       | _,_,_=>False
     | _,_=>False
   | _=>False
 | _=>False
def ZDI (A:Ann) (bx:Nat->Nat) (env:Env) (a:Act) (h fr:Hp) (w:World) (s:Nat):EV->Prop
 | .val v=>a.tmps[s]?=some v
 | .box cs=>a.tmps[s]?=some (.pointer (some ⟨bx s,0,none⟩))/\(∃ e,w.heap[bx s]?=some (.cells cs.toArray e (0,0)))/\h (bx s)=none/\fr (bx s)=none
 | .ref off=>∃ t,A.refOf s=some t/\a.tmps[s]?=some (.pointer (some ⟨bx t,off,none⟩))/\∃ cs,env t=.box cs
 | .unk=>True
structure Rel (A:Ann) (N:Nat) (bx:Nat->Nat) (env:Env) (a:Act) (h fr:Hp) (w0 w:World):Prop where
 size:a.tmps.size=N
 defers:a.defers=A.defs
 hle:h.le w
 frle:fr.le w
 dj:h.dj fr
 same:ZF0 w0 w
 slot:∀ s,ZDI A bx env a h fr w s (env s)
 prom:∀ s cs,env s=.box cs->A.isProm s=true
 inj:∀ s t cs ds,env s=.box cs->env t=.box ds->bx s=bx t->s=t
def Ann.good (A:Ann):Prop:=∀ s t,A.refOf s=some t->A.isProm s=false
section
variable {A:Ann} {N:Nat} {bx:Nat->Nat} {env:Env} {a:Act} {h fr:Hp} {w0 w:World}
theorem ZFb {a b:Nat}:Nat.beq a b=true↔a=b:=Nat.beq_eq▸Iff.rfl
theorem ZTT {a b:Nat}:Nat.beq a b=false↔a≠b:=by
 constructor
 .intro h e; rw [ZFb.2 e] at h; cases h
 .intro h; cases e:Nat.beq a b with
  | false=>rfl
  | true=>exact absurd (ZFb.1 e) h
theorem ZBD {o:Option Nat} {b:Nat}:ZAT o b=true↔o=some b:=by
 cases o with
 | none=>simp [ZAT]
 | some a=>simp [ZAT]
theorem Rel.eval_v (R:Rel A N bx env a h fr w0 w) {x:Operand} {v:Value} (e:look A env x=.v v):a.eval x=v:=by
 cases x with
 | tmp t=>
   have hs:=R.slot t;simp only [look] at e;cases he:env t with
   | val u=>
     rw [he] at e hs; simp at e; subst e;simp only [ZDI] at hs;simp [Act.eval,hs]
   | box cs=>rw [he] at e; simp at e
   | ref off=>
     rw [he] at e; simp only at e;cases hr:A.refOf t with
     | none=>rw [hr] at e; cases e
     | some t'=>
       rw [hr] at e; simp only at e;cases hp:A.isProm t' with
       | false=>rw [hp] at e; cases e
       | true=>rw [hp] at e; simp only [cond_true] at e; cases h':env t'<;>rw [h'] at e<;>cases e
   | unk=>rw [he] at e; cases e
 | const u=>simp [look] at e; subst e; rfl
 | func f=>simp [look] at e; subst e; rfl
 | global g=>cases e
theorem Rel.eval_r (R:Rel A N bx env a h fr w0 w) {x:Operand} {t off:Nat} {cs:List Value} (e:look A env x=.r t off cs):
 a.eval x=.pointer (some ⟨bx t,off,none⟩)/\env t=.box cs/\∃ s,x=.tmp s/\((s=t/\off=0/\A.isProm s=true)\/(A.refOf s=some t/\A.isProm t=true)):=by
 cases x with
 | tmp s=>
   have hs:=R.slot s;simp only [look] at e;cases he:env s with
   | val u=>rw [he] at e; cases e
   | box ds=>
     rw [he] at e hs; simp at e; obtain ⟨rfl,rfl,rfl⟩:=e;obtain ⟨h1,_⟩:=hs;exact ⟨by simp [Act.eval,h1],he,s,rfl,.inl ⟨rfl,rfl,R.prom _ _ he⟩⟩
   | ref o=>
     rw [he] at e hs; simp only at e;obtain ⟨t',hr,h1,ds,hb⟩:=hs;rw [hr] at e; simp only at e; rw [hb,R.prom _ _ hb] at e; simp [ZRF] at e; obtain ⟨rfl,rfl,rfl⟩:=e;exact ⟨by simp [Act.eval,h1],hb,s,rfl,.inr ⟨hr,R.prom _ _ hb⟩⟩
   | unk=>rw [he] at e; cases e
 | const u=>cases e
 | func f=>cases e
 | global g=>cases e
theorem ZCI (d:Nat) (e:EV):put A env (some d) e d=e:=by simp [put]
theorem ZBl {d s:Nat} (e:EV) (hs:s≠d):put A env (some d) e s=env s∨(put A env (some d) e s=.unk∧A.isProm d=true∧A.refOf s=some d):=by
 simp only [put,ZTT.2 hs,cond_false];cases hc:(A.isProm d&&ZAT (A.refOf s) d) with
 | false=>left; rfl
 | true=>
   right;simp only [Bool.and_eq_true] at hc;exact ⟨rfl,hc.1,ZBD.1 hc.2⟩
theorem ZGR (a:Act) (d:Option Tmp) (v:Value):(a.put d v).tmps.size=a.tmps.size:=by cases d<;>simp [Act.put]
theorem ZEm (a:Act) (d:Option Tmp) (v:Value):(a.put d v).defers=a.defers:=by cases d<;>rfl
theorem ZC3 (a:Act) {d:Nat} (v:Value) (hd:d<a.tmps.size):(a.put (some d) v).tmps[d]?=some v:=by simp [Act.put,hd]
theorem ZCh (a:Act) {d s:Nat} (v:Value) (hs:s≠d):(a.put (some d) v).tmps[s]?=a.tmps[s]?:=by simp only [Act.put];rw [Array.getElem?_setIfInBounds_ne (Ne.symm hs)]
def ZYP (A:Ann) (bx:Nat->Nat) (env:Env) (d:Option Tmp) (ev:EV) (v:Value):Prop:=
 match ev with
 | .val u=>u=v
 | .ref off=>∃ s t,d=some s/\A.refOf s=some t/\(∃ cs,env t=.box cs)/\v=.pointer (some ⟨bx t,off,none⟩)
 | .unk=>True
 | .box _=>False
theorem Rel.put (R:Rel A N bx env a h fr w0 w) (hA:A.good) {d:Option Tmp} (hd:∀ k,d=some k→k<N) {ev:EV} {v:Value} (hv:ZYP A bx env d ev v):
 Rel A N bx (Eng.put A env d ev) (a.put d v) h fr w0 w:=by
 cases d with
 | none=>exact R
 | some d=>
   have hd:=hd d rfl;have hds:d<a.tmps.size:=by rw [R.size]; exact hd
   have nb:∀ s cs,Eng.put A env (some d) ev s=.box cs->s≠d/\env s=.box cs:=by
    intro s cs hs;by_cases e:s=d
    .subst e; rw [ZCI] at hs; subst hs; exact hv.elim
    .refine ⟨e,?_⟩;rcases ZBl (A:=A) (env:=env) ev e with h'|⟨h',_,_⟩
     .rw [h'] at hs; exact hs
     .rw [h'] at hs; cases hs
   refine ⟨by rw [ZGR]; exact R.size,by rw [ZEm]; exact R.defers,R.hle,R.frle,R.dj,R.same,?_,?_,?_⟩
   ·intro s;by_cases e:s=d
    ·subst e;rw [ZCI];cases ev with
     | val u=>simp only [ZYP] at hv; subst hv; exact ZC3 a _ hds
     | box cs=>exact hv.elim
     | ref off=>
       obtain ⟨s',t,hs',hr,⟨cs,hb⟩,rfl⟩:=hv;cases hs';refine ⟨t,hr,ZC3 a _ hds,cs,?_⟩;have hts:t≠s:=by rintro rfl;have:=hA _ _ hr;rw [R.prom _ _ hb] at this; cases this
       rcases ZBl (A:=A) (env:=env) (EV.ref off) hts with h'|⟨_,_,h2⟩
       .rw [h']; exact hb
       .have:=hA _ _ h2; rw [R.prom _ _ hb] at this; cases this
     | unk=>trivial
    ·rcases ZBl (A:=A) (env:=env) ev e with h'|⟨h',_,_⟩
     ·rw [h'];have hs:=R.slot s;cases hes:env s with
      | val u=>rw [hes] at hs; simp only [ZDI] at hs ⊢; rw [ZCh a v e]; exact hs
      | box cs=>rw [hes] at hs; simp only [ZDI] at hs ⊢; rw [ZCh a v e]; exact hs
      | ref off=>
        rw [hes] at hs; simp only [ZDI] at hs ⊢; rw [ZCh a v e];obtain ⟨t,hr,ht,cs,hb⟩:=hs;refine ⟨t,hr,ht,cs,?_⟩
        have htd:t≠d:=by
            rintro rfl;rcases ZBl (A:=A) (env:=env) ev e with h2|⟨h2,_,_⟩
            .have hp:=R.prom _ _ hb;have:Eng.put A env (some t) ev s=.unk:=by simp only [Eng.put,ZTT.2 e,cond_false,hp,hr,ZAT,ZFb.2 rfl,Bool.and_self,cond_true]
             rw [this] at h2; rw [<-h2] at hes; cases hes
            .rw [h'] at h2; rw [h2] at hes; cases hes
        rcases ZBl (A:=A) (env:=env) ev htd with h2|⟨_,_,h3⟩
        .rw [h2]; exact hb
        .have:=hA _ _ h3; rw [R.prom _ _ hb] at this; cases this
      | unk=>trivial
     .rw [h']; trivial
   .intro s cs hs; exact R.prom s cs (nb s cs hs).2
   .intro s t cs ds hs ht he; exact R.inj s t cs ds (nb s cs hs).2 (nb t ds ht).2 he
theorem Rel.world (R:Rel A N bx env a h fr w0 w) {h':Hp} {w':World} (hle:h'.le w') (frle:fr.le w') (dj:h'.dj fr) (same:ZF0 w w')
 (keep:∀ b,b<w.heap.size->h b=none->fr b=none->w'.heap[b]?=w.heap[b]?/\h' b=none):Rel A N bx env a h' fr w0 w':=by
 refine ⟨R.size,R.defers,hle,frle,dj,R.same.trans same,?_,R.prom,R.inj⟩;intro s;have hs:=R.slot s;cases hes:env s with
 | val u=>rw [hes] at hs; exact hs
 | box cs=>
   rw [hes] at hs;obtain ⟨h1,⟨e,h2⟩,h3,h4⟩:=hs;have hlt:bx s<w.heap.size:=by
    rcases Nat.lt_or_ge (bx s) w.heap.size with h'|h'
    .exact h'
    .rw [Array.getElem?_eq_none h'] at h2; cases h2
   obtain ⟨k1,k2⟩:=keep _ hlt h3 h4;exact ⟨h1,⟨e,by rw [k1]; exact h2⟩,k2,h4⟩
 | ref off=>rw [hes] at hs; exact hs
 | unk=>trivial
noncomputable def ZE0 (bx:Nat->Nat) (env:Env) (w:World):Hp:=λb=>
 open Classical in if ∃ s cs,env s=.box cs/\bx s=b then w.heap[b]? else none
theorem Rel.boxes_le (_R:Rel A N bx env a h fr w0 w):(ZE0 bx env w).le w:=by
 intro b o hb;unfold ZE0 at hb;split at hb
 .exact hb
 .cases hb
theorem Rel.boxes_dj (R:Rel A N bx env a h fr w0 w):h.dj (ZE0 bx env w):=by
 intro b;unfold ZE0;split
 .rename_i hx;obtain ⟨s,cs,he,rfl⟩:=hx;have hs:=R.slot s;rw [he] at hs;exact .inl hs.2.2.1
 .exact .inr rfl
theorem Rel.boxes_dj' (R:Rel A N bx env a h fr w0 w):(ZE0 bx env w).dj fr:=by
 intro b;unfold ZE0;split
 .rename_i hx;obtain ⟨s,cs,he,rfl⟩:=hx;have hs:=R.slot s;rw [he] at hs;exact .inr hs.2.2.2
 .exact .inl rfl
theorem Rel.called (R:Rel A N bx env a h fr w0 w) {h':Hp} {w':World} (hle:h'.le w') (frle:((ZE0 bx env w).un fr).le w') (dj:h'.dj ((ZE0 bx env w).un fr)) (same:ZF0 w w'):
 Rel A N bx env a h' fr w0 w':=by
 have dj':=R.boxes_dj';have fl:=Hp.le_un_right dj' frle;have bl:=Hp.le_un_left frle;have d1:=Hp.dj_symm (Hp.dj_un_left (Hp.dj_symm dj));have d2:=Hp.dj_symm (Hp.dj_un_right (Hp.dj_symm dj));refine ⟨R.size,R.defers,hle,fl,d2,R.same.trans same,?_,R.prom,R.inj⟩;intro s;have hs:=R.slot s;cases hes:env s with
 | val u=>rw [hes] at hs; exact hs
 | box cs=>
   rw [hes] at hs;obtain ⟨h1,⟨e,h2⟩,h3,h4⟩:=hs;have hb:ZE0 bx env w (bx s)=some (.cells cs.toArray e (0,0)):=by unfold ZE0;rw [if_pos ⟨s,cs,hes,rfl⟩]; exact h2
   refine ⟨h1,⟨e,bl _ _ hb⟩,?_,h4⟩;rcases d1 (bx s) with k|k
   .exact k
   .rw [hb] at k; cases k
 | ref off=>rw [hes] at hs; exact hs
 | unk=>trivial
theorem Rel.newBox (R:Rel A N bx env a h fr w0 w) (hA:A.good) {d:Nat} (hd:d<N) (hp:A.isProm d=true) (cs:List Value) (e:TypeId):
 Rel A N (λs=>if s=d then w.heap.size else bx s) (Eng.put A env (some d) (.box cs)) (a.put (some d) (.pointer (some ⟨w.heap.size,0,none⟩))) h fr w0 (w.alloc (.cells cs.toArray e)):=by
 have hds:d<a.tmps.size:=by rw [R.size]; exact hd
 have ob:∀ s ds,s≠d->Eng.put A env (some d) (.box cs) s=.box ds->env s=.box ds:=by
  intro s ds hs he;rcases ZBl (A:=A) (env:=env) (EV.box cs) hs with h'|⟨h',_,_⟩
  .rw [h'] at he; exact he
  .rw [h'] at he; cases he
 have lt:∀ s ds,env s=.box ds->bx s<w.heap.size:=by
  intro s ds he;have hs:=R.slot s;rw [he] at hs;obtain ⟨_,⟨e,h2⟩,_,_⟩:=hs;rcases Nat.lt_or_ge (bx s) w.heap.size with h'|h'
  .exact h'
  .rw [Array.getElem?_eq_none h'] at h2; cases h2
 have old:∀ k,k<w.heap.size->(w.alloc (.cells cs.toArray e)).heap[k]?=w.heap[k]?:=by intro k hk;show (w.heap.push _)[k]?=_;rw [Array.getElem?_push,if_neg (by omega)]
 refine ⟨by rw [ZGR]; exact R.size,by rw [ZEm]; exact R.defers,Hp.le_alloc R.hle _,Hp.le_alloc R.frle _,R.dj,R.same.trans ⟨rfl,rfl,rfl⟩,?_,?_,?_⟩
 ·intro s;by_cases es:s=d
  .subst es;rw [ZCI];refine ⟨by rw [ZC3 a _ hds]; simp,⟨e,?_⟩,?_,?_⟩
   .simp only [if_true];show (w.heap.push _)[w.heap.size]?=_;simp
   .simp only [if_true]; exact Hp.le_lt R.hle (Nat.le_refl _)
   .simp only [if_true]; exact Hp.le_lt R.frle (Nat.le_refl _)
  ·rcases ZBl (A:=A) (env:=env) (EV.box cs) es with h'|⟨h',_,_⟩
   ·rw [h'];have hs:=R.slot s;cases hes:env s with
    | val u=>rw [hes] at hs; simp only [ZDI] at hs ⊢; rw [ZCh a _ es]; exact hs
    | box ds=>
      rw [hes] at hs;obtain ⟨h1,⟨e',h2⟩,h3,h4⟩:=hs;simp only [ZDI,if_neg es];rw [ZCh a _ es];exact ⟨h1,⟨e',by rw [old _ (lt _ _ hes)]; exact h2⟩,h3,h4⟩
    | ref off=>
      rw [hes] at hs;obtain ⟨t,hr,ht,ds,hb⟩:=hs
      have htd:t≠d:=by
          rintro rfl;have:Eng.put A env (some t) (.box cs) s=.unk:=by simp only [Eng.put,ZTT.2 es,cond_false,hp,hr,ZAT,ZFb.2 rfl,Bool.and_self,cond_true]
          rw [this] at h'; rw [<-h'] at hes; cases hes
      simp only [ZDI];rw [ZCh a _ es];refine ⟨t,hr,by rw [if_neg htd]; exact ht,ds,?_⟩;rcases ZBl (A:=A) (env:=env) (EV.box cs) htd with h2|⟨_,_,h3⟩
      .rw [h2]; exact hb
      .have:=hA _ _ h3; rw [R.prom _ _ hb] at this; cases this
    | unk=>trivial
   .rw [h']; trivial
 .intro s ds hs;by_cases es:s=d
  .subst es; exact hp
  .exact R.prom s ds (ob s ds es hs)
 .intro s t cs' ds hs ht he;by_cases es:s=d
  .by_cases et:t=d
   .rw [es,et]
   .simp only [es,if_true,if_neg et] at he;have:=lt t ds (ob t ds et ht); omega
  .by_cases et:t=d
   .simp only [et,if_true,if_neg es] at he;have:=lt s cs' (ob s cs' es hs); omega
   .simp only [if_neg es,if_neg et] at he;exact R.inj s t cs' ds (ob s cs' es hs) (ob t ds et ht) he
theorem Rel.setBox (R:Rel A N bx env a h fr w0 w) {t:Nat} {cs cs':List Value} (_hA:A.good) (ht:env t=.box cs) {w':World}
 (hw:∃ e,w'.heap[bx t]?=some (.cells cs'.toArray e (0,0))) (hold:∀ k,k≠bx t->w'.heap[k]?=w.heap[k]?) (same:ZF0 w w'):
 ∃ env',env'=(λs=>if s=t then EV.box cs' else env s)/\Rel A N bx env' a h fr w0 w':=by
 refine ⟨_,rfl,?_⟩;have hst:=R.slot t;rw [ht] at hst;obtain ⟨t1,t2,t3,t4⟩:=hst;have keep:∀ g:Hp,g.le w->g (bx t)=none->g.le w':=by intro g hg h0 k o hk;rw [hold k (by rintro rfl; rw [h0] at hk; cases hk)]; exact hg k o hk
 have ob:∀ s ds,(if s=t then EV.box cs' else env s)=.box ds->∃ ds',env s=.box ds':=by
  intro s ds hs;by_cases e:s=t
  .subst e; exact ⟨_,ht⟩
  .rw [if_neg e] at hs; exact ⟨_,hs⟩
 refine ⟨R.size,R.defers,keep h R.hle t3,keep fr R.frle t4,R.dj,R.same.trans same,?_,?_,?_⟩
 ·intro s;by_cases e:s=t
  .subst e; simp only [if_true]; exact ⟨t1,hw,t3,t4⟩
  ·simp only [if_neg e];have hs:=R.slot s;cases hes:env s with
   | val u=>rw [hes] at hs; exact hs
   | box ds=>
     rw [hes] at hs;obtain ⟨h1,⟨e',h2⟩,h3,h4⟩:=hs;exact ⟨h1,⟨e',by rw [hold _ (λhb=>e (R.inj _ _ _ _ hes ht hb))]; exact h2⟩,h3,h4⟩
   | ref off=>
     rw [hes] at hs;obtain ⟨u,hr,hu,ds,hb⟩:=hs;refine ⟨u,hr,hu,?_⟩;by_cases eu:u=t
     .exact ⟨cs',if_pos eu⟩
     .exact ⟨ds,by show (if u=t then _ else _)=_; rw [if_neg eu]; exact hb⟩
   | unk=>trivial
 .intro s ds hs;obtain ⟨ds',h'⟩:=ob s ds hs;exact R.prom s ds' h'
 .intro s u ds es hs hu he;obtain ⟨ds',h1⟩:=ob s ds hs;obtain ⟨es',h2⟩:=ob u es hu;exact R.inj s u ds' es' h1 h2 he
end
section
variable {P:Program} {w:World}
theorem ZIu {t:TypeId} {i:TypeInfo} (h:P.info? t=some i):(typeInfo t).run P w=.ok i w:=by simp only [typeInfo,Sem.run_bind,run_program,Result.andThen_ok,h]; rfl
theorem ZB9 {t:TypeId} {n:Nat} (h:ZAu P t=some n):(sizeOf t).run P w=.ok n w:=by
 unfold ZAu at h;cases hi:P.info? t with
 | none=>rw [hi] at h; cases h
 | some i=>rw [hi] at h; simp only [Option.some.injEq] at h; subst h; simp only [sizeOf,Sem.run_bind,ZIu hi,Result.andThen_ok]; rfl
theorem ZLy {t:TypeId} {n:Nat} (h:ZAu P t=some n):P.cellsOf t=n:=by
 unfold ZAu at h;unfold Program.cellsOf;cases hi:P.info? t with
 | none=>rw [hi] at h; cases h
 | some i=>rw [hi] at h; simp only [Option.some.injEq] at h; subst h; rfl
theorem Zd {t:TypeId} {d:TypeDesc} (h:P.underlying t=some d):(underlying t).run P w=.ok d w:=by simp only [underlying,Sem.run_bind,run_program,Result.andThen_ok,h]; rfl
theorem ZHG {t:TypeId} {d:TypeDesc} (h:P.underlying t=some d):(isAgg t).run P w=.ok (ZCU P t) w:=by unfold isAgg ZCU;simp only [Sem.run_bind,Zd h,Result.andThen_ok,h];cases d<;>rfl
theorem ZDO {t:TypeId} {z:Value} (h:ZDM P t=some z):(zeroValue t).run P w=.ok z w:=by
 unfold ZDM at h;cases hi:P.info? t with
 | none=>rw [hi] at h; cases h
 | some i=>rw [hi] at h; simp only at h; simp only [zeroValue,Sem.run_bind,ZIu hi,Result.andThen_ok,h]; rfl
theorem ZL7 {t:TypeId} {n:Nat} (h:ZAu P t=some n):∃ i,P.info? t=some i/\i.size=n/\i.bytes=ZA2 P t:=by
 unfold ZAu at h;unfold ZA2;cases hi:P.info? t with
 | none=>rw [hi] at h; cases h
 | some i=>rw [hi] at h; simp only [Option.some.injEq] at h; exact ⟨i,rfl,h,rfl⟩
theorem ZB0 {b:Nat} {cs:Array Value} {e:TypeId} {fz:Nat×Nat} (hb:w.heap[b]?=some (.cells cs e fz)) (i:Nat):w.cell? ⟨b,i,none⟩=cs[i]?:=by simp [World.cell?,hb]
theorem ZGy {b:Nat} {cs:Array Value} {e:TypeId} (hb:w.heap[b]?=some (.cells cs e (0,0))) (i:Nat):w.frozen? ⟨b,i,none⟩=false:=by simp [World.frozen?,hb]
theorem ZEX (b o i:Nat):(⟨b,o,none⟩:Addr).add i=⟨b,o+i,none⟩:=by
 unfold Addr.add;split
 .rename_i h; subst h; rfl
 .rfl
theorem ZJH {v:Value} (h:ZF7 v=true):v.oneCell'=true:=by cases v<;>first|rfl|cases h
theorem ZFo {v:Value} (h:ZF7 v=true):v.cells=#[v]:=by cases v<;>first|rfl|cases h
theorem ZPm {l:List Value}:ZIt l=true↔∀ v∈l,ZF7 v=true:=by
 induction l with
 | nil=>simp [ZIt]
 | cons x l ih=>simp [ZIt,ih]
theorem ZDS {t:TypeId} {n:Nat} (hs:ZAu P t=some n) (hu:∃ d,P.underlying t=some d) {a:Addr} {cs:List Value} (hl:cs.length=n)
 (hc:∀ j v,cs[j]?=some v->w.cell? (a.add j)=some v) (h1:ZCU P t=false->n=1):
 (loadVar t a).run P w=.ok (if ZCU P t then .agg cs.toArray else cs.getD 0 undef) w:=by
 obtain ⟨d,hd⟩:=hu;unfold loadVar;simp only [Sem.run_bind,ZHG hd,Result.andThen_ok];cases hg:ZCU P t with
 | true=>
   simp only [if_true,Sem.run_bind,ZB9 hs,Result.andThen_ok];rw [<-hl,run_loadCells_list (P:=P) w a cs hc];rfl
 | false=>
   have hn:=h1 hg;have hlen:cs.length=1:=by omega
   obtain ⟨v,rfl⟩:∃ v,cs=[v]:=by
    match cs,hlen with
    | [v],_=>exact ⟨v,rfl⟩
   have:=hc 0 v rfl;rw [show a.add 0=a from rfl] at this;simp only [Bool.false_eq_true,if_false,run_load,this];rfl
def wrW (w:World) (a:Addr):Nat->List Value->World
 | _,[]=>w
 | i,v::l=>wrW (w.setCell (a.add i) v) a (i+1) l
theorem ZBh (a:Addr):∀ (vs:List Value) (i:Nat) (w:World),(∀ j,j<vs.length→(∃ v,w.cell? (a.add (i+j))=some v)∧w.frozen? (a.add (i+j))=false)→(∀ v∈vs,ZF7 v=true)→
 (storeCells a vs i).run P w=.ok () (wrW w a i vs):=by
 intro vs;induction vs with
 | nil=>intro i w _ _; rfl
 | cons v l ih=>
   intro i w hc ho;obtain ⟨⟨u,h1⟩,h2⟩:=hc 0 (by simp);simp only [Nat.add_zero] at h1 h2;unfold storeCells;rw [Sem.run_bind,run_store P w (a.add i) v .plain (ZJH (ho v (by simp)))];simp only [h1,h2,Bool.false_eq_true,if_false,Result.andThen_ok,wrW];refine ih (i+1) (w.setCell (a.add i) v) ?_ (λx hx=>ho x (List.mem_cons_of_mem _ hx));intro j hj;obtain ⟨⟨u',h1'⟩,h2'⟩:=hc (j+1) (by simp; omega);rw [show i+1+j=i+(j+1) by omega];refine ⟨?_,by rw [World.frozen?_setCell]; exact h2'⟩;by_cases e:a.add i=a.add (i+(j+1))
   .rw [<-e]; exact ⟨v,World.cell?_setCell_same w _ v h1⟩
   .exact ⟨u',by rw [World.cell?_setCell_other w _ _ v e]; exact h1'⟩
theorem ZOA (a:Addr):∀ (vs:List Value) (i:Nat) (w:World),ZF0 w (wrW w a i vs):=by
 intro vs;induction vs with
 | nil=>intro i w; exact ZF0.refl w
 | cons v l ih=>intro i w; exact ZF0.trans (b:=w.setCell (a.add i) v) ⟨rfl,rfl,rfl⟩ (ih _ _)
theorem ZL8 (a:Addr):∀ (vs:List Value) (i:Nat) (w:World) (k:Nat),k≠a.block→(wrW w a i vs).heap[k]?=w.heap[k]?:=by
 intro vs;induction vs with
 | nil=>intro i w k _; rfl
 | cons v l ih=>
   intro i w k hk;have hb:(a.add i).block=a.block:=by unfold Addr.add; split<;>rfl
   rw [wrW,ih _ _ k hk,World.heap_setCell,if_neg (by rw [hb]; exact hk)]
theorem ZJ6 (a:Addr) (i:Nat):(a.add i).block=a.block:=by unfold Addr.add; split<;>rfl
theorem ZYw (a:Addr):∀ (vs:List Value) (i:Nat) (h:Hp) (w:World),h.le w->(h.wrs a i vs).le (wrW w a i vs):=by
 intro vs;induction vs with
 | nil=>intro i h w hl; exact hl
 | cons v l ih=>intro i h w hl; exact ih _ _ _ (Hp.setCell_le hl _ _)
theorem ZGp (a:Addr):∀ (vs:List Value) (i:Nat) (h:Hp) (b:Nat),(h.wrs a i vs) b=none↔h b=none:=by
 intro vs;induction vs with
 | nil=>intro i h b; exact Iff.rfl
 | cons v l ih=>intro i h b; rw [Hp.wrs,ih,Hp.setCell_none]
theorem ZTG (b o:Nat):∀ (vs:List Value) (i:Nat) (cs:List Value) (w:World) (e:TypeId),w.heap[b]?=some (.cells cs.toArray e (0,0))→o+i+vs.length≤cs.length→
 (wrW w ⟨b,o,none⟩ i vs).heap[b]?=some (.cells (ZFD cs (o+i) vs).toArray e (0,0)):=by
 intro vs;induction vs with
 | nil=>intro i cs w e hb _; simpa [wrW,ZFD] using hb
 | cons v l ih=>
   intro i cs w e hb hl;simp only [List.length_cons] at hl;rw [wrW,ZEX];have h1:(w.setCell ⟨b,o+i,none⟩ v).heap[b]?=some (.cells (cs.set (o+i) v).toArray e (0,0)):=by rw [World.heap_setCell,if_pos rfl,hb];simp [ZNQ]
   rw [ih (i+1) _ _ e h1 (by simp; omega)];congr 2;congr 1;unfold ZFD;have hlt:o+i<cs.length:=by omega
   apply List.ext_getElem?;intro j;simp only [List.getElem?_append,List.getElem?_take,List.length_take,List.length_set,List.getElem?_drop,List.getElem?_set,List.length_cons];rw [show min (o+(i+1)) cs.length=o+i+1 by omega,show min (o+i) cs.length=o+i by omega];by_cases h1:j<o+i
   .simp [h1,show j<o+i+1 by omega,show j<o+(i+1) by omega,show ¬(o+i=j) by omega]
   .by_cases h2:j=o+i
    .subst h2; simp [hlt]
    .simp only [h1,show ¬(j<o+i+1) by omega,if_false];rw [show j-(o+i)=(j-(o+i+1))+1 by omega];simp only [Nat.add_lt_add_iff_right,List.getElem?_cons_succ];by_cases h3:j-(o+i+1)<l.length
     .simp [h3]
     .simp only [h3,if_false];rw [if_neg (by omega)];congr 1; omega
end
def Did (P:Program) (o:Oper) (a:Act) (w:World) (a':Act) (w':World):Prop:=
 (∃ v,(execOp a.eval o).run P w=.ok (.value v) w'/\a'=a.put o.dst v)\/((execOp a.eval o).run P w=.ok .skip w'/\a'=a.put o.dst undef)
section
variable {P:Program} {A:Ann} {N:Nat} {bx:Nat->Nat} {env:Env} {a:Act} {h fr:Hp} {w0 w:World}
def ZAE (A:Ann) (N:Nat) (P:Program) (o:Oper) (env:Env) (a:Act) (h fr:Hp) (w0 w:World) (k:EV->Prop):Prop:=
 ∃ ev bx' a' w',k ev/\Rel A N bx' (put A env (ZA3 A o) ev) a' h fr w0 w'/\Did P o a w a' w'
theorem ZAE.val (R:Rel A N bx env a h fr w0 w) (hA:A.good) {o:Oper} (hd:∀ k,o.dst=some k->k<N) (he:ZA3 A o=o.dst) {k:EV->Prop} {ev:EV} {v:Value}
 (hr:(execOp a.eval o).run P w=.ok (.value v) w) (hv:ZYP A bx env o.dst ev v) (hk:k ev):ZAE A N P o env a h fr w0 w k:=
 ⟨ev,bx,a.put o.dst v,w,hk,he▸R.put hA hd hv,.inl ⟨v,hr,rfl⟩⟩
theorem ZAE.moveL (R:Rel A N bx env a h fr w0 w) (hA:A.good) {o:Oper} (hd:∀ k,o.dst=some k→k<N) (he:ZA3 A o=o.dst) {k:EV→Prop} {x:Operand}
 (hr:(execOp a.eval o).run P w=.ok (.value (a.eval x)) w) (hk:Eng.moveL A o.dst (look A env x) k):ZAE A N P o env a h fr w0 w k:=by
 unfold Eng.moveL at hk;cases hl:look A env x with
 | v v=>rw [hl] at hk; exact ZAE.val R hA hd he hr (ev:=.val v) (R.eval_v hl).symm hk
 | r t off cs=>
   rw [hl] at hk;obtain ⟨e1,e2,_⟩:=R.eval_r hl;cases hds:o.dst with
   | none=>rw [hds] at hk; exact ZAE.val R hA hd he hr (ev:=.unk) trivial hk
   | some d=>
     rw [hds] at hk;dsimp only at hk;cases hs:ZAT (A.refOf d) t with
     | true=>
       rw [hs] at hk;exact ZAE.val R hA hd he hr (ev:=.ref off) ⟨d,t,hds,ZBD.1 hs,⟨cs,e2⟩,e1⟩ hk
     | false=>rw [hs] at hk; exact ZAE.val R hA hd he hr (ev:=.unk) trivial hk
 | no=>rw [hl] at hk; exact ZAE.val R hA hd he hr (ev:=.unk) trivial hk
theorem ZAE.refTo (R:Rel A N bx env a h fr w0 w) (hA:A.good) {o:Oper} (hd:∀ k,o.dst=some k→k<N) (he:ZA3 A o=o.dst) {k:EV→Prop} {t off:Nat} {cs:List Value}
 (hb:env t=.box cs) (hr:(execOp a.eval o).run P w=.ok (.value (.pointer (some ⟨bx t,off,none⟩))) w) (hk:Eng.refTo A o.dst t off k):ZAE A N P o env a h fr w0 w k:=by
 unfold Eng.refTo at hk;cases hds:o.dst with
 | none=>rw [hds] at hk; exact hk.elim
 | some d=>
   rw [hds] at hk;dsimp only at hk;cases hs:ZAT (A.refOf d) t with
   | true=>
     rw [hs] at hk;exact ZAE.val R hA hd he hr (ev:=.ref off) ⟨d,t,hds,ZBD.1 hs,⟨cs,hb⟩,rfl⟩ hk
   | false=>rw [hs] at hk; exact hk.elim
theorem ZAj (R:Rel A N bx env a h fr w0 w):∀ {xs:List Operand} {vs:List Value},ZH6 (look A env) xs=some vs→xs.map a.eval=vs:=by
 intro xs;induction xs with
 | nil=>intro vs hv; simp [ZH6] at hv; subst hv; rfl
 | cons x l ih=>
   intro vs hv;unfold ZH6 at hv;split at hv
   .rename_i v hx;split at hv
    .rename_i us hl;cases hv;simp [R.eval_v hx,ih hl]
    .cases hv
   .cases hv
theorem ZGG (R:Rel A N bx env a h fr w0 w):∀ {xs:List (Nat×Operand)} {vs:List (Nat×Value)},ZC9 (look A env) xs=some vs→xs.map (fun (i,x)=>(i,a.eval x))=vs:=by
 intro xs;induction xs with
 | nil=>intro vs hv; simp [ZC9] at hv; subst hv; rfl
 | cons x l ih=>
   intro vs hv;obtain ⟨i,x⟩:=x;unfold ZC9 at hv;split at hv
   .rename_i v hx;split at hv
    .rename_i us hl;cases hv;simp [R.eval_v hx,ih hl]
    .cases hv
   .cases hv
theorem ZOC {t:TypeId} {xs:List Value} {off:Nat} {v:Value} (hp:ZIJ P t xs off=some v):(part t xs.toArray off).run P w=.ok v w:=by
 unfold ZIJ at hp;cases hi:P.info? t with
 | none=>rw [hi] at hp; cases hp
 | some i=>
   rw [hi] at hp; simp only at hp;cases hu:P.underlying t with
   | none=>rw [hu] at hp; cases hp
   | some d=>
     rw [hu] at hp;have hs:ZAu P t=some i.size:=by simp [ZAu,hi]
     unfold part;simp only [Sem.run_bind,ZHG hu,Result.andThen_ok,ZCU,hu]
     cases d<;>simp only [Bool.false_eq_true,if_false,if_true] at hp ⊢<;>
      first
       | (rw [show (xs.toArray)[off]?=xs[off]? from by simp,hp]; rfl)
       | (simp only [Sem.run_bind,ZB9 hs,Result.andThen_ok]
          cases hp
          simp)
theorem ZGO:∀ {d:Nat} {t:TypeId},ZVj P d t=true→∀ n,d≤n→P.eqGuardType n t=false:=by
 intro d;induction d with
 | zero=>intro t h; cases h
 | succ d ih=>
   intro t h n hn;obtain ⟨m,rfl⟩:∃ m,n=m+1:=⟨n-1,by omega⟩
   unfold ZVj at h;unfold Program.eqGuardType;split at h
   .rename_i e; simp [e]
   .rename_i e; simp [e]
   .rename_i e; simp [e]
   .rename_i fs e;simp only [e];simp only [Bool.and_eq_true,List.all_eq_true] at h;rw [Array.any_eq_false];intro i hi;have:=h.2 fs[i] (by simp);simp [ih this.2 m (by omega)]
   .rename_i n' e he;simp only [he];exact ih h m (by omega)
   .cases h
theorem ZGJ (d:Nat) (t e:TypeId) (len n:Nat) (xs ys:List Value) (hu:P.underlying t=some (.array len e)) (hs:ZAu P e=some n)
 (f:TypeId->Value->Value->Option Bool) (hf:∀ x y r,f e x y=some r->∀ w,(Op.equalIn d e x y).run P w=.ok r w) {r:Bool} (hr:ZZR P f e n xs ys (List.range len)=some r):
 (Op.equalIn (d+1) t (.agg xs.toArray) (.agg ys.toArray)).run P w=.ok r w:=by
 simp only [Op.equalIn,Sem.run_bind,Zd hu,Result.andThen_ok,ZB9 hs];rw [Std.Legacy.Range.forIn_eq_forIn_range'];simp only [Std.Legacy.Range.size,Nat.sub_zero,Nat.add_sub_cancel,Nat.div_one];rw [<-List.range_eq_range'];generalize List.range len=is at hr;induction is generalizing r with
 | nil=>simp [ZZR] at hr; subst hr; simp
 | cons i is ih=>
   unfold ZZR at hr;split at hr
   ·rename_i x y hx hy;split at hr
    ·rename_i r1 r2 h1 h2;cases hr;simp only [List.forIn_cons,Sem.run_bind,ZOC hx,ZOC hy,Result.andThen_ok,hf _ _ _ h1 w,Sem.run_ite];cases r1 with
     | false=>simp
     | true=>
       simp only [Bool.not_true,Bool.false_eq_true,if_false,Sem.run_pure,Result.andThen_ok,Bool.true_and];exact ih h2
    .cases hr
   .cases hr
theorem ZKT (d:Nat) (xs ys:List Value) (f:TypeId→Value→Value→Option Bool):∀ (fs:List Field) (r:Bool),
 (∀ g∈fs,g.name ≠ "_" /\ ∀ x y r,f g.type x y=some r->∀ w,(Op.equalIn d g.type x y).run P w=.ok r w)->
 ZWf P f xs ys fs=some r->(Op.eqFields d xs.toArray ys.toArray fs).run P w=.ok r w:=by
 intro fs
 induction fs with
 | nil=>intro r _ hr; simp [ZWf] at hr; subst hr; simp [Op.eqFields]
 | cons g gs ih=>
   intro r hg hr
   have hone:∃ x y r1 r2,ZIJ P g.type xs g.offset=some x∧ZIJ P g.type ys g.offset=some y∧f g.type x y=some r1∧ZWf P f xs ys gs=some r2∧r=(r1&&r2):=by
    cases gs with
    | nil=>
      simp only [ZWf] at hr
      split at hr
      .rename_i x y hx hy; exact ⟨x,y,r,true,hx,hy,hr,rfl,by simp⟩
      .cases hr
    | cons g' gs=>
      simp only [ZWf] at hr
      split at hr
      .rename_i x y hx hy
       split at hr
       .rename_i r1 r2 h1 h2; cases hr; exact ⟨x,y,r1,r2,hx,hy,h1,h2,rfl⟩
       .cases hr
      .cases hr
   obtain ⟨x,y,r1,r2,hx,hy,h1,h2,rfl⟩:=hone
   obtain ⟨hn,hf⟩:=hg g (by simp)
   rw [Op.eqFields]
   simp only [if_pos hn,Sem.run_bind,ZOC hx,ZOC hy,hf _ _ _ h1 w,Result.andThen_ok]
   cases r1 with
   | false=>simp
   | true=>simpa using ih r2 (λg hg'=>hg g (List.mem_cons_of_mem _ hg')) h2
theorem ZTj {x y:Value} {r:Bool} (h:eqI x y=some r):∃ j a b,x=.int j a/\y=.int j b/\r=(a==b):=by
 unfold eqI at h;split at h
 .rename_i j a j' b;split at h
  .rename_i hj;have hj:=of_decide_eq_true hj;subst hj;cases h;exact ⟨j,a,b,rfl,rfl,rfl⟩
  .cases h
 .cases h
theorem ZTh {x y:Value} {r:Bool} (h:eqB x y=some r):∃ a b,x=.bool a/\y=.bool b/\r=(a==b):=by
 unfold eqB at h;split at h
 .cases h; exact ⟨_,_,rfl,rfl,rfl⟩
 .cases h
theorem ZUx {x y:Value} {r:Bool} (h:eqS x y=some r):∃ a b,x=.string a/\y=.string b/\r=(a.toList==b.toList):=by
 unfold eqS at h;split at h
 .cases h; exact ⟨_,_,rfl,rfl,rfl⟩
 .cases h
theorem ZBr {x:Value} {xs:List Value} (h:ZCg x=some xs):x=.agg xs.toArray:=by
 unfold ZCg at h;split at h
 .cases h; simp
 .cases h
theorem ZQm:∀ {d:Nat} {t:TypeId},ZVj P d t=true→∀ {x y:Value} {r:Bool} {m:Nat},eqV P d t x y=some r→d≤m→∀ w,(Op.equalIn m t x y).run P w=.ok r w:=by
 intro d;induction d with
 | zero=>intro t h; cases h
 | succ d ih=>
   intro t ht x y r m hr hm w;obtain ⟨m,rfl⟩:∃ n,m=n+1:=⟨m-1,by omega⟩
   unfold ZVj at ht;unfold eqV at hr;split at ht
   .rename_i k e;rw [e] at hr;obtain ⟨j,a,b,rfl,rfl,rfl⟩:=ZTj hr;exact run_equalIn_int w m t j k a b e
   .rename_i e;rw [e] at hr;obtain ⟨a,b,rfl,rfl,rfl⟩:=ZTh hr;exact run_equalIn_bool' w m t _ _ e
   .rename_i e;rw [e] at hr;obtain ⟨a,b,rfl,rfl,rfl⟩:=ZUx hr;exact run_equalIn_string w m t _ _ e
   .rename_i fs e;rw [e] at hr;simp only [Bool.and_eq_true,Bool.not_eq_true',List.all_eq_true] at ht;dsimp only at hr;split at hr
    .rename_i xs ys hx hy;rw [ZBr hx,ZBr hy];have hf:P.fieldsOf t=fs:=by simp [Program.fieldsOf,e]
     rw [run_equalIn_struct (P:=P) w m t _ _ (by rw [hf]; exact e) ht.1,hf];refine ZKT m xs ys (eqV P d) fs.toList r (λg hg=>?_) hr;have:=ht.2 g hg;exact ⟨by simpa using this.1,λx y r h w=>ih this.2 h (by omega) w⟩
    .cases hr
   .rename_i n e he;rw [he] at hr;dsimp only at hr;split at hr
    .rename_i xs ys hx hy;rw [ZBr hx,ZBr hy];split at hr
     .rename_i i hi;exact ZGJ m t e n i.size xs ys he (by simp [ZAu,hi]) (eqV P d) (λx y r h w=>ih ht h (by omega) w) hr
     .cases hr
    .cases hr
   .cases ht
end
section
variable {P:Program} {A:Ann} {N:Nat} {bx:Nat->Nat} {env:Env} {a:Act} {h fr:Hp} {w0 w:World}
def ZYi (A:Ann) (P:Program):Prop:=∀ t,A.eqs t=true->ZVj P 20 t=true
def ZaY (P:Program):Prop:=∀ (g:Nat) (fn:Func),P.funcs[g]?=some fn->(fn.name == "runtime.NumGoroutine")=false
theorem ZNe (d:Nat) {t e:TypeId} (hu:P.underlying t=some (.pointer e)) (p:Option Addr):(Op.equalIn (d+1) t (.pointer p) (.pointer none)).run P w=.ok p.isNone w:=by cases p<;>simp [Op.equalIn,Zd hu]
theorem ZRn (d:Nat) {t e:TypeId} (hu:P.underlying t=some (.slice e)) (p:Option Addr) (l c l' c':Nat):(Op.equalIn (d+1) t (.slice p l c) (.slice none l' c')).run P w=.ok p.isNone w:=by cases p<;>simp [Op.equalIn,Zd hu]
theorem ZVC (hE:ZYi A P) (hdep:20≤P.depth) {op:BinOp} {t:TypeId} {ox oy:Operand} {x y:Value} {k:EV→Prop} (hk:ZYc A P op t x y k):
 ∃ v,((do eqGuard op t ox oy x y; binOp op t x y:Sem Value)).run P w=.ok v w/\k (.val v):=by
 unfold ZYc at hk
 split at hk
 ·
  rename_i j a j' b
  have hg:(eqGuard op t ox oy (.int j a) (.int j' b)).run P w=.ok () w:=by cases op<;>simp [eqGuard]
  cases op<;>simp only [Sem.run_bind,hg,Result.andThen_ok] at hk ⊢
  case shl=>
   obtain ⟨h0,hk⟩:=hk
   exact ⟨_,by simp only [binOp,Op.shift,if_neg (show ¬b<0 by omega)]; rfl,hk⟩
  case shr=>
   obtain ⟨h0,hk⟩:=hk
   exact ⟨_,by simp only [binOp,Op.shift,if_neg (show ¬b<0 by omega)]; rfl,hk⟩
  all_goals
   split at hk
   .exact hk.elim
   ·rename_i hj
    have hj:=of_decide_eq_true hj
    subst hj
    first
     | exact ⟨_,by simp only [binOp,ne_eq,not_true_eq_false,if_false]; rfl,hk⟩
     | (obtain ⟨h0,hk⟩:=hk
        exact ⟨_,by simp only [binOp,ne_eq,not_true_eq_false,if_false,Op.intDiv,if_neg h0]; rfl,hk⟩)
 .rename_i a b
  split at hk
  .rename_i hu
   exact ⟨_,by simp only [Sem.run_bind,eqGuard,binOp,Op.equal,Op.maxDepth]; simp [run_equalIn_bool w 9999 t a b hu],hk⟩
  .rename_i hu
   exact ⟨_,by simp only [Sem.run_bind,eqGuard,binOp,Op.equal,Op.maxDepth]; simp [run_equalIn_bool w 9999 t a b hu],hk⟩
  .exact hk.elim
 .rename_i a b
  split at hk
  .exact ⟨_,by simp [eqGuard,binOp,Op.stringOp]; rfl,hk⟩
  .exact ⟨_,by simp [eqGuard,binOp,Op.stringOp]; rfl,hk⟩
  .exact hk.elim
 .rename_i p
  split at hk
  .rename_i e hu
   refine ⟨_,?_,hk⟩
   have hq:=ZNe (P:=P) (w:=w) 9999 hu p
   simp only [Sem.run_bind,eqGuard,binOp,Op.equal,Op.maxDepth]
   simp [hq]
  .rename_i e hu
   refine ⟨_,?_,hk⟩
   have hq:=ZNe (P:=P) (w:=w) 9999 hu p
   simp only [Sem.run_bind,eqGuard,binOp,Op.equal,Op.maxDepth]
   simp [hq]
  .exact hk.elim
 .rename_i p l c l' c'
  split at hk
  .rename_i e hu
   refine ⟨_,?_,hk⟩
   have hq:=ZRn (P:=P) (w:=w) 9999 hu p l c l' c'
   simp only [Sem.run_bind,eqGuard,binOp,Op.equal,Op.maxDepth]
   simp [hq]
  .rename_i e hu
   refine ⟨_,?_,hk⟩
   have hq:=ZRn (P:=P) (w:=w) 9999 hu p l c l' c'
   simp only [Sem.run_bind,eqGuard,binOp,Op.equal,Op.maxDepth]
   simp [hq]
  .exact hk.elim
 ·rename_i xs ys
  cases hq:A.eqs t with
  | false=>rw [hq] at hk; exact hk.elim
  | true=>
    rw [hq] at hk
    simp only [cond_true] at hk
    have hty:=hE t hq
    have hg:∀ op,(eqGuard op t ox oy (.agg xs) (.agg ys)).run P w=.ok () w:=λop=>
     run_eqGuard_agg w op t ox oy xs ys (ZGO hty _ hdep)
    split at hk
    .rename_i r hr
     refine ⟨_,?_,hk⟩
     simp only [Sem.run_bind,hg,Result.andThen_ok]
     rw [run_eql_struct,ZQm hty hr (by omega) w]; rfl
    .rename_i r hr
     refine ⟨_,?_,hk⟩
     simp only [Sem.run_bind,hg,Result.andThen_ok]
     rw [run_neq_struct,ZQm hty hr (by omega) w]; rfl
    .exact hk.elim
 .exact hk.elim
theorem ZPd (cs:Array Value) (o n:Nat):cs.extract o (o+n)=((cs.toList.drop o).take n).toArray:=by cases cs; simp
theorem ZPq {t:TypeId} {n:Nat} {cs:Array Value} {off:Nat} {k:EV→Prop} (hs:ZAu P t=some n) (hu:∃ d,P.underlying t=some d)
 (hk:ZJS (ZCU P t) n cs.toList off k):∃ v,(part t cs off).run P w=.ok v w/\k (.val v):=by
 obtain ⟨d,hd⟩:=hu;unfold ZJS at hk;unfold part;simp only [Sem.run_bind,ZHG hd,Result.andThen_ok];cases hg:ZCU P t with
 | true=>
   rw [hg] at hk;dsimp only at hk;cases hb:Nat.ble (off+n) cs.toList.length with
   | false=>rw [hb] at hk; exact hk.elim
   | true=>
     rw [hb] at hk;exact ⟨_,by simp only [if_true,Sem.run_bind,ZB9 hs,Result.andThen_ok,ZPd]; rfl,hk⟩
 | false=>
   rw [hg] at hk;dsimp only at hk;split at hk
   .rename_i v hv;refine ⟨v,?_,hk⟩;rw [show cs[off]?=some v by simpa using hv];simp
   .exact hk.elim
def ZVy (P:Program):Prop:=∀ t n,ZAu P t=some n->∃ d,P.underlying t=some d
theorem ZBs {len cap:Nat} {kl kh:IntKind} {lo hi:Option Int} {isS:Bool} {K:Nat→Nat→Prop} (hk:ZAI len cap lo hi K):
 ∃ l m,(Instr.sliceBounds isS len cap (lo.map (.int kl)) (hi.map (.int kh)) none).run P w=.ok (l,m,cap) w/\K l m:=by
 have hb:∀ (k:IntKind) (i:Int) (y:Nat) (code:BoundsCode),0<=i->i<=y->(Instr.sliceBound (.int k i) y code).run P w=.ok i.toNat w:=by intro k i y code h0 h1;unfold Instr.sliceBound;simp only [asIntOf,Sem.run_bind,Sem.run_pure,Result.andThen_ok,if_pos (And.intro h0 h1)]
 unfold ZAI at hk;unfold Instr.sliceBounds;cases hi with
 | none=>
   cases lo with
   | none=>exact ⟨0,len,by simp,hk⟩
   | some i=>
     obtain ⟨h0,h1,hk⟩:=hk;exact ⟨i.toNat,len,by simp [hb kl i len _ h0 h1],hk⟩
 | some j=>
   cases lo with
   | none=>
     obtain ⟨h0,h1,hk⟩:=hk;exact ⟨0,j.toNat,by simp [hb kh j cap _ h0 h1],hk⟩
   | some i=>
     obtain ⟨h0,h1,h2,hk⟩:=hk;exact ⟨i.toNat,j.toNat,by simp [hb kh j cap _ (by omega) h2,hb kl i j.toNat _ h0 (by omega)],hk⟩
theorem ZLN {len cap:Nat} {kl kh km:IntKind} {lo:Option Int} {j m:Int} {isS:Bool} {K:Nat→Nat→Nat→Prop} (hk:ZIA cap lo j m K):
 ∃ l h' m',(Instr.sliceBounds isS len cap (lo.map (.int kl)) (some (.int kh j)) (some (.int km m))).run P w=.ok (l,h',m') w/\K l h' m':=by
 have hb:∀ (k:IntKind) (i:Int) (y:Nat) (code:BoundsCode),0<=i->i<=y->(Instr.sliceBound (.int k i) y code).run P w=.ok i.toNat w:=by intro k i y code h0 h1;unfold Instr.sliceBound;simp only [asIntOf,Sem.run_bind,Sem.run_pure,Result.andThen_ok,if_pos (And.intro h0 h1)]
 unfold ZIA at hk;unfold Instr.sliceBounds;obtain ⟨h1,h2,h3,hk⟩:=hk;cases lo with
 | none=>exact ⟨0,j.toNat,m.toNat,by simp [hb km m cap _ (by omega) h1,hb kh j m.toNat _ h3 (by omega)],hk⟩
 | some i=>
   obtain ⟨h4,h5,hk⟩:=hk;exact ⟨i.toNat,j.toNat,m.toNat,by simp [hb km m cap _ (by omega) h1,hb kh j m.toNat _ h3 (by omega),hb kl i j.toNat _ h4 (by omega)],hk⟩
end
section
variable {P:Program} {A:Ann} {N:Nat} {bx:Nat->Nat} {env:Env} {a:Act} {h fr:Hp} {w0 w:World}
structure ZGa (P:Program) (A:Ann):Prop where
 good:A.good
 eqs:ZYi A P
 dep:20<=P.depth
 noNG:ZaY P
 formed:ZVy P
theorem ZOg (fs:Array Field) (hs:fs.all (fun f=>(ZAu P f.type).isSome)=true) (w:World):
 (fs.mapM (λf=>(do pure (f.offset,<-sizeOf f.type):Sem (Nat×Nat)))).run P w=.ok (fs.map λf=>(f.offset,P.cellsOf f.type)) w:=by
 obtain ⟨l⟩:=fs;rw [List.mapM_toArray];simp only [Array.all_eq_true_iff_forall_mem,List.mem_toArray] at hs
 have:∀ (l:List Field),(∀ f∈l,(ZAu P f.type).isSome=true)→(l.mapM (fun f=>(do pure (f.offset,←sizeOf f.type):Sem (Nat×Nat)))).run P w=.ok (l.map fun f=>(f.offset,P.cellsOf f.type)) w:=by
  intro l;induction l with
  | nil=>intro _; rfl
  | cons f l ih=>
    intro hl;obtain ⟨n,hn⟩:=Option.isSome_iff_exists.1 (hl f (by simp));simp only [List.mapM_cons,Sem.run_bind,ZB9 hn,Result.andThen_ok,Sem.run_pure,ih (λg hg=>hl g (List.mem_cons_of_mem _ hg)),List.map_cons,ZLy hn]
 rw [Sem.run_map,this l hs];simp
theorem ZN3 {b off:Nat} {cs:List Value} {e:TypeId} (hb:w.heap[b]?=some (.cells cs.toArray e (0,0))) {n:Nat} (_hl:off+n<=cs.length):
 ∀ j v,((cs.drop off).take n)[j]?=some v->w.cell? ((⟨b,off,none⟩:Addr).add j)=some v:=by
 intro j v hj;rw [ZEX,ZB0 hb];rw [List.getElem?_take] at hj;split at hj
 .rw [List.getElem?_drop] at hj; simpa using hj
 .cases hj
theorem ZYg (hP:ZGa P A) (R:Rel A N bx env a h fr w0 w) {o:Oper} (hd:∀ k,o.dst=some k→k<N) (hc:cls A P o=.p) {k:EV→Prop}
 (hk:opP A P o (look A env) k):ZAE A N P o env a h fr w0 w k:=by
 obtain ⟨dst,op,type,pos,after,guard⟩:=o
 have he:(∀ t x y,op≠.store t x y)->ZA3 A ⟨dst,op,type,pos,after,guard⟩=dst:=by
  intro hs
  cases op<;>first|rfl|exact absurd rfl (hs _ _ _)
 cases op
 case move x=>exact ZAE.moveL R hP.good hd (he (by simp)) (x:=x) rfl hk
 case assign x=>exact ZAE.moveL R hP.good hd (he (by simp)) (x:=x) rfl hk
 case pick c x y=>
  simp only [opP] at hk
  split at hk
  .rename_i t ht
   have e:=R.eval_v ht
   cases t with
   | true=>exact ZAE.moveL R hP.good hd (he (by simp)) (x:=x) (by simp [execOp,e,asBool]) hk
   | false=>exact ZAE.moveL R hP.good hd (he (by simp)) (x:=y) (by simp [execOp,e,asBool]) hk
  .exact hk.elim
 case alloc elem=>
  simp only [opP] at hk
  simp only [cls] at hc
  cases dst with
  | none=>cases hc
  | some d=>
    cases hp:A.isProm d with
    | false=>simp [hp] at hc
    | true=>
      split at hk
      .rename_i z hz
       refine ⟨_,_,_,_,hk,R.newBox hP.good (hd d rfl) hp z.cells.toList elem,.inl ⟨.pointer (some ⟨w.heap.size,0,none⟩),?_,rfl⟩⟩
       simp [execOp,Instr.alloc,ZDO hz,newVar,newRow]
      .exact hk.elim
 case box elem x=>
  simp only [opP] at hk
  simp only [cls] at hc
  cases dst with
  | none=>cases hc
  | some d=>
    cases hp:A.isProm d with
    | false=>simp [hp] at hc
    | true=>
      split at hk
      .rename_i z hz
       refine ⟨_,_,_,_,hk,R.newBox hP.good (hd d rfl) hp z.cells.toList elem,.inl ⟨.pointer (some ⟨w.heap.size,0,none⟩),?_,rfl⟩⟩
       simp [execOp,Instr.box,R.eval_v hz,newVar,newRow]
      .exact hk.elim
 case build t ps=>
  simp only [opP] at hk
  split at hk
  ·rename_i l z fs hl hz hu
   have hl':=ZGG R hl
   split at hk
   ·rename_i cs hf
    unfold ZYM at hf
    refine ZAE.val R hP.good hd (he (by simp)) (v:=.agg cs) (ev:=.val (.agg cs)) ?_ rfl hk
    cases hsz:fs.all (λf=>(ZAu P f.type).isSome) with
    | false=>rw [hsz] at hf; cases hf
    | true=>
      rw [hsz] at hf
      simp only [cond_true] at hf
      have hps:ps.map (λx=>(x.1,a.eval x.2))=l.toArray:=Array.ext' (by simp [<-hl'])
      simp only [execOp,Instr.build,Sem.run_bind,ZDO hz,Zd hu,Result.andThen_ok,ZOg fs hsz]
      simp only [hps,Array.getElem?_map]
      rw [hf]; rfl
   .exact hk.elim
  ·rename_i l z n e hl hz hu
   have hl':=ZGG R hl
   split at hk
   ·rename_i cs hf
    unfold ZYK at hf
    refine ZAE.val R hP.good hd (he (by simp)) (v:=.agg cs) (ev:=.val (.agg cs)) ?_ rfl hk
    cases hsz:ZAu P e with
    | none=>rw [hsz] at hf; cases hf
    | some n'=>
      rw [hsz] at hf
      dsimp only at hf
      have hps:ps.map (λx=>(x.1,a.eval x.2))=l.toArray:=Array.ext' (by simp [<-hl'])
      simp only [execOp,Instr.build,Sem.run_bind,ZDO hz,Zd hu,Result.andThen_ok,ZB9 hsz]
      simp only [hps]
      rw [hf]; rfl
   .exact hk.elim
  .exact hk.elim
 case nilCheck x=>
  simp only [opP] at hk
  split at hk
  .rename_i p hx
   cases p with
   | none=>exact hk.elim
   | some ad=>
   exact ZAE.val R hP.good hd (he (by simp)) (v:=.pointer (some ad)) (ev:=.val _) (by simp [execOp,R.eval_v hx]) rfl hk
  .rename_i f p q hx
   exact ZAE.val R hP.good hd (he (by simp)) (v:=.func (.func f) p q) (ev:=.val _) (by simp [execOp,R.eval_v hx]) rfl hk
  .rename_i t off cs hx
   obtain ⟨e1,e2,_⟩:=R.eval_r hx
   exact ZAE.refTo R hP.good hd (he (by simp)) e2 (by simp [execOp,e1]) hk
  .exact hk.elim
 case binOp op t x y ty=>
  simp only [opP] at hk
  split at hk
  .rename_i u v hu hv
   obtain ⟨r,hr,hk⟩:=ZVC (w:=w) (ox:=x) (oy:=y) hP.eqs hP.dep hk
   exact ZAE.val R hP.good hd (he (by simp)) (v:=r) (ev:=.val r) (by simp only [execOp,R.eval_v hu,R.eval_v hv]; rw [Sem.run_bind,hr]; rfl) rfl hk
  .exact hk.elim
 case unOp op t x=>
  simp only [opP] at hk
  split at hk
  .rename_i j n hx
   exact ZAE.val R hP.good hd (he (by simp)) (v:=.int j (j.wrap (0-n))) (ev:=.val _) (by simp [execOp,R.eval_v hx,Op.unary,Op.intArith]) rfl hk
  .rename_i b hx
   exact ZAE.val R hP.good hd (he (by simp)) (v:=.bool (!b)) (ev:=.val _) (by simp [execOp,R.eval_v hx,Op.unary]) rfl hk
  .exact hk.elim
 case convert s d x=>
  simp only [opP] at hk
  split at hk
  .rename_i j1 j j2 n hs hd' hx
   exact ZAE.val R hP.good hd (he (by simp)) (v:=.int j (j.wrap n)) (ev:=.val _) (by simp [execOp,R.eval_v hx,convert,Zd hs,Zd hd',Conv.intToInt]) rfl hk
  .exact hk.elim
 case makeInterface t x=>
  simp only [opP] at hk
  split at hk
  .exact hk.elim
  .rename_i d v hne hu hx
   refine ZAE.val R hP.good hd (he (by simp)) (v:=.iface t v) (ev:=.val _) ?_ rfl hk
   simp only [execOp,Instr.makeInterface,R.eval_v hx,Sem.run_bind,Zd hu,Result.andThen_ok]
   cases d<;>first|rfl|(exfalso; simp at hne)
  .exact hk.elim
 case makeFunc fn first captured=>
  simp only [opP] at hk
  split at hk
  .rename_i l m hl hm
   refine ZAE.val R hP.good hd (he (by simp)) (v:=.func fn l.toArray m.toArray) (ev:=.val _) ?_ rfl hk
   have h1:=ZAj R hl
   have h2:=ZAj R hm
   simp only [execOp,Instr.makeFunc]
   rw [show Array.map a.eval first=l.toArray from Array.ext' (by simp [<-h1]),show Array.map a.eval captured=m.toArray from Array.ext' (by simp [<-h2])]
   rfl
  .exact hk.elim
 case fieldAddr s x f=>
  simp only [opP] at hk
  split at hk
  ·rename_i fs hu
   split at hk
   ·rename_i fd hf
    split at hk
    ·rename_i n hn
     have hrun:∀ ad:Addr,(Instr.fieldAt s (.pointer (some ad)) f).run P w=.ok (.pointer (some (ad.add fd.offset))) w:=by
          intro ad
          simp [Instr.fieldAt,Zd hu,hf,Instr.sureAddr,fieldPlace,ZB9 hn]
     split at hk
     .rename_i ad hx
      exact ZAE.val R hP.good hd (he (by simp)) (v:=.pointer (some (ad.add fd.offset))) (ev:=.val _) (by simp [execOp,R.eval_v hx,hrun]) rfl hk
     .rename_i t off cs hx
      obtain ⟨e1,e2,_⟩:=R.eval_r hx
      exact ZAE.refTo R hP.good hd (he (by simp)) e2 (by simp only [execOp,e1,Sem.run_bind,hrun,ZEX]; rfl) hk
     .exact hk.elim
    .exact hk.elim
   .exact hk.elim
  .exact hk.elim
 case field s x f=>
  simp only [opP] at hk
  split at hk
  ·rename_i fs hu
   split at hk
   .rename_i fd hf
    split at hk
    .rename_i n cs hn hx
     obtain ⟨v,hr,hk⟩:=ZPq (w:=w) hn (hP.formed _ _ hn) hk
     exact ZAE.val R hP.good hd (he (by simp)) (v:=v) (ev:=.val v) (by simp [execOp,Instr.field,R.eval_v hx,Zd hu,hf,asAgg,hr]) rfl hk
    .exact hk.elim
   .exact hk.elim
  .exact hk.elim
 case load t x=>
  simp only [opP] at hk
  split at hk
  ·rename_i n bt off cs hn hx
   obtain ⟨e1,e2,_⟩:=R.eval_r hx
   have hs:=R.slot bt
   rw [e2] at hs
   obtain ⟨_,⟨e,hb⟩,_,_⟩:=hs
   have hu:=hP.formed _ _ hn
   obtain ⟨d,hd'⟩:=hu
   cases hdy:ZRa A x with
   | true=>
     rw [hdy] at hk
     simp only [cond_true] at hk
     split at hk
     ·rename_i c hcd
      cases hft:ZAt P c t with
      | false=>rw [hft] at hk; exact hk.elim
      | true=>
        rw [hft] at hk
        simp only [cond_true] at hk
        obtain ⟨y,hy,hk⟩:=hk
        simp only [ZAt,Bool.and_eq_true,hn,ZFb] at hft
        obtain ⟨⟨hmem,hag⟩,hnn⟩:=hft
        have hag:c.agg=ZCU P t:=by simpa using hag
        have hform:=c.form hmem y
        refine ZAE.val R hP.good hd (he (by simp)) (v:=c.enc y) (ev:=.val _) ?_ rfl hk
        simp only [execOp,Instr.loadAt,Instr.sureAddr,e1,Sem.run_bind]
        have hrd:∀ j v,(c.enc y).cells.toList[j]?=some v→w.cell? ((⟨bx bt,off,none⟩:Addr).add j)=some v:=by
           intro j v hj
           rw [ZEX,ZB0 hb]
           simpa using hy j v hj
        cases hg:c.agg with
        | true=>
          rw [hg] at hform
          obtain ⟨xs,hxs,hlen,_⟩:=hform
          rw [hxs] at hrd ⊢
          have:=ZDS (P:=P) (w:=w) hn ⟨d,hd'⟩ (cs:=xs) (by omega) (by simpa [Value.cells] using hrd) (by rw [<-hag,hg]; simp)
          simp only [Sem.run_pure,Result.andThen_ok]
          rw [this,<-hag,hg]; rfl
        | false=>
          rw [hg] at hform
          obtain ⟨hone,hn1⟩:=hform
          rw [ZFo hone] at hrd
          have:=ZDS (P:=P) (w:=w) hn ⟨d,hd'⟩ (cs:=[c.enc y]) (by simp; omega) hrd (by intro; omega)
          simp only [Sem.run_pure,Result.andThen_ok]
          rw [this,<-hag,hg]; rfl
     .exact hk.elim
   | false=>
     rw [hdy] at hk
     simp only [cond_false] at hk
     unfold ZJS at hk
     cases hg:ZCU P t with
     | true=>
       rw [hg] at hk
       dsimp only at hk
       cases hl:Nat.ble (off+n) cs.length with
       | false=>rw [hl] at hk; exact hk.elim
       | true=>
         rw [hl] at hk
         have hl:off+n<=cs.length:=Nat.le_of_ble_eq_true hl
         refine ZAE.val R hP.good hd (he (by simp)) (v:=.agg ((cs.drop off).take n).toArray) (ev:=.val _) ?_ rfl hk
         have:=ZDS (P:=P) (w:=w) hn ⟨d,hd'⟩ (cs:=(cs.drop off).take n) (by simp; omega) (ZN3 hb hl) (by rw [hg]; simp)
         simp only [execOp,Instr.loadAt,Instr.sureAddr,e1,Sem.run_bind,Sem.run_pure,Result.andThen_ok,this,hg]
         rfl
     | false=>
       rw [hg] at hk
       dsimp only at hk
       split at hk
       .rename_i v hv
        refine ZAE.val R hP.good hd (he (by simp)) (v:=v) (ev:=.val v) ?_ rfl hk
        have hlt:=(List.getElem?_eq_some_iff.1 hv).1
        simp only [execOp,Instr.loadAt,Instr.sureAddr,e1,Sem.run_bind,Sem.run_pure,Result.andThen_ok,loadVar,ZHG hd',hg,Bool.false_eq_true,if_false]
        rw [run_load,ZB0 hb,show cs.toArray[off]?=some v by simpa using hv]
        rfl
       .exact hk.elim
  .exact hk.elim
 case store t x y=>
  simp only [opP] at hk
  split at hk
  ·rename_i n bt off cs v hn hx hy
   obtain ⟨e1,e2,s,rfl,hs⟩:=R.eval_r hx
   have heff:ZA3 A ⟨none,.store t (.tmp s) y,type,pos,after,guard⟩=some bt:=by
    simp only [ZA3]
    rcases hs with ⟨rfl,_,hp⟩|⟨hr,_⟩
    .simp [hp]
    .simp [hP.good _ _ hr,hr]
   have hpb:A.isProm bt=true:=R.prom _ _ e2
   have hslot:=R.slot bt
   rw [e2] at hslot
   obtain ⟨_,⟨e,hb⟩,_,_⟩:=hslot
   cases hsz:(Nat.beq v.cells.size n&&ZIt v.cells.toList) with
   | false=>rw [hsz] at hk; exact hk.elim
   | true=>
     rw [hsz] at hk
     simp only [cond_true] at hk
     simp only [Bool.and_eq_true,ZFb,ZPm] at hsz
     obtain ⟨hsz,hones⟩:=hsz
     -- the common end
     have fin:∀ cs':List Value,off+v.cells.toList.length≤cs.length→cs'=ZFD cs off v.cells.toList→k (.box cs')→
          ZAE A N P ⟨none,.store t (.tmp s) y,type,pos,after,guard⟩ env a h fr w0 w k:=by
         intro cs' hl hcs hk
         have hrun:=ZBh (P:=P) ⟨bx bt,off,none⟩ v.cells.toList 0 w (λj hj=>by
          rw [ZEX,ZB0 hb,ZGy hb]
          refine ⟨?_,rfl⟩
          have:off+(0+j)<cs.length:=by omega
          exact ⟨cs[off+(0+j)],by simp⟩) hones
         obtain ⟨env',rfl,R'⟩:=R.setBox hP.good e2 (w':=wrW w ⟨bx bt,off,none⟩ 0 v.cells.toList) (cs':=cs')
          ⟨e,by rw [ZTG (bx bt) off _ 0 cs w e hb (by omega),hcs]; rfl⟩ (λk hk=>ZL8 _ _ _ _ _ hk) (ZOA _ _ _ _)
         refine ⟨.box cs',bx,a,wrW w ⟨bx bt,off,none⟩ 0 v.cells.toList,hk,?_,.inr ⟨?_,rfl⟩⟩
         ·rw [heff]
          -- forget the addresses in it
          refine ⟨R'.size,R'.defers,R'.hle,R'.frle,R'.dj,R'.same,?_,?_,?_⟩
          ·intro u
           by_cases eu:u=bt
           .subst eu; rw [ZCI]; have:=R'.slot u; simp only [if_true] at this; exact this
           ·rcases ZBl (A:=A) (env:=env) (EV.box cs') eu with h'|⟨h',_,_⟩
            ·rw [h']
             have:=R'.slot u
             simp only [if_neg eu] at this
             cases hu:env u with
             | val z=>rw [hu] at this; exact this
             | box z=>rw [hu] at this; exact this
             | ref off'=>
               rw [hu] at this
               obtain ⟨t',hr',ht',ds,hb'⟩:=this
               refine ⟨t',hr',ht',ds,?_⟩
               by_cases et:t'=bt
               ·subst et
                exfalso
                have:put A env (some t') (.box cs') u=.unk:=by
                   simp only [put,ZTT.2 eu,cond_false,hpb,hr',ZAT,ZFb.2 rfl,Bool.and_self,cond_true]
                rw [this] at h'; rw [<-h'] at hu; cases hu
               .replace hb':(if t'=bt then EV.box cs' else env t')=.box ds:=hb'
                rw [if_neg et] at hb'
                rcases ZBl (A:=A) (env:=env) (EV.box cs') et with h2|⟨_,_,h3⟩
                .rw [h2]; exact hb'
                .have:=hP.good _ _ h3; rw [R.prom _ _ hb'] at this; cases this
             | unk=>trivial
            .rw [h']; trivial
          .intro u ds hu
           by_cases eu:u=bt
           .subst eu; exact hpb
           .rcases ZBl (A:=A) (env:=env) (EV.box cs') eu with h'|⟨h',_,_⟩
            .rw [h'] at hu; exact R.prom _ _ hu
            .rw [h'] at hu; cases hu
          ·intro u u' ds ds' hu hu' hbb
           have back:∀ z zs,put A env (some bt) (.box cs') z=.box zs→∃ zs',env z=.box zs':=by
             intro z zs hz
             by_cases ez:z=bt
             .subst ez; exact ⟨_,e2⟩
             .rcases ZBl (A:=A) (env:=env) (EV.box cs') ez with h'|⟨h',_,_⟩
              .rw [h'] at hz; exact ⟨_,hz⟩
              .rw [h'] at hz; cases hz
           obtain ⟨_,g1⟩:=back u ds hu
           obtain ⟨_,g2⟩:=back u' ds' hu'
           exact R.inj _ _ _ _ g1 g2 hbb
         .simp only [execOp,Instr.storeAt,Instr.sureAddr,e1,R.eval_v hy,Sem.run_bind,Sem.run_pure,Result.andThen_ok,storeVar,ZB9 hn]
          rw [if_neg (by simp [hsz])]
          simp only [hrun,Result.andThen_ok]
     cases hdy:ZRa A (.tmp s) with
     | true=>
       rw [hdy] at hk
       simp only [cond_true] at hk
       split at hk
       .rename_i c hcd
        obtain ⟨hl,z,hz,hk⟩:=hk
        exact fin _ hl hz hk
       .exact hk.elim
     | false=>
       rw [hdy] at hk
       simp only [cond_false] at hk
       cases hl:Nat.ble (off+n) cs.length with
       | false=>rw [hl] at hk; exact hk.elim
       | true=>
         rw [hl] at hk
         have hl:=Nat.le_of_ble_eq_true hl
         exact fin _ (by simp; omega) rfl hk
  .exact hk.elim
 case indexAddr t x ix=>
  simp only [opP] at hk
  split at hk
  .rename_i e j i hu hi
   have ei:=R.eval_v hi
   split at hk
   .rename_i n b len cap hn hx
    obtain ⟨h0,h1,hk⟩:=hk
    cases b with
    | none=>exact hk.elim
    | some ad=>
    refine ZAE.val R hP.good hd (he (by simp)) (v:=.pointer (some (ad.add (i.toNat*n)))) (ev:=.val _) ?_ rfl hk
    simp [execOp,Instr.indexAt,ei,R.eval_v hx,asIntOf,Zd hu,h0,h1,ZB9 hn]
   .exact hk.elim
  .rename_i len e j i hu hi
   have ei:=R.eval_v hi
   split at hk
   .rename_i n ad hn hx
    obtain ⟨h0,h1,hk⟩:=hk
    refine ZAE.val R hP.good hd (he (by simp)) (v:=.pointer (some (ad.add (i.toNat*n)))) (ev:=.val _) ?_ rfl hk
    simp [execOp,Instr.indexAt,ei,R.eval_v hx,asIntOf,Zd hu,Instr.sureAddr,h0,h1,ZB9 hn]
   .rename_i n bt off cs hn hx
    obtain ⟨h0,h1,hk⟩:=hk
    obtain ⟨e1,e2,_⟩:=R.eval_r hx
    refine ZAE.refTo R hP.good hd (he (by simp)) e2 ?_ hk
    simp [execOp,Instr.indexAt,ei,e1,asIntOf,Zd hu,Instr.sureAddr,h0,h1,ZB9 hn,ZEX]
   .exact hk.elim
  .exact hk.elim
 case index t x ix=>
  simp only [opP] at hk
  split at hk
  .rename_i s j i hu hx hi
   obtain ⟨h0,h1,hk⟩:=hk
   refine ZAE.val R hP.good hd (he (by simp)) (v:=.int .u8 ((s.data.getD i.toNat 0).toNat:Int)) (ev:=.val _) ?_ rfl hk
   have hlt:i.toNat<s.size:=by omega
   have hg:s[i.toNat]?=some (s.data.getD i.toNat 0):=by
    have h2:i.toNat<s.data.size:=hlt
    rw [getElem?_pos s i.toNat hlt]
    unfold Array.getD; rw [dif_pos h2]; rfl
   simp [execOp,Instr.index,R.eval_v hi,R.eval_v hx,asIntOf,Zd hu,h0,hg]
  .exact hk.elim
 case slice t x lo hi mx=>
  simp only [opP] at hk
  have hmap:∀ {o:Option Operand} {l:Option LV} ,o.map (look A env)=l→(l=none→o.map a.eval=none)∧(∀ v,l=some (.v v)→o.map a.eval=some v):=by
   intro o l ho
   cases o with
   | none=>exact ⟨λ_=>rfl,λv hv=>(by rw [hv] at ho; cases ho)⟩
   | some y=>
     refine ⟨λhl=>(by rw [hl] at ho; cases ho),λv hv=>?_⟩
     rw [hv] at ho
     have hy:look A env y=.v v:=Option.some.inj ho
     simp [R.eval_v hy]
  split at hk
  ·rename_i e p len cap hu hx
   split at hk
   .exact hk.elim
   ·rename_i n hn
    have main:∀ (vlo vhi vmx:Option Value) (l m c:Nat),lo.map a.eval=vlo→hi.map a.eval=vhi→mx.map a.eval=vmx→
          (Instr.sliceBounds true len cap vlo vhi vmx).run P w=.ok (l,m,c) w->k (.val (.slice (Zm p l c n) (m-l) (c-l)))->ZAE A N P ⟨dst,.slice t x lo hi mx,type,pos,after,guard⟩ env a h fr w0 w k:=by
         intro vlo vhi vmx l m c e1 e2 e3 hb hk
         refine ZAE.val R hP.good hd (he (by simp)) (v:=.slice (Zm p l c n) (m-l) (c-l)) (ev:=.val _) ?_ rfl hk
         simp only [execOp,Instr.sliceAt,R.eval_v hx,Sem.run_bind,Zd hu,Result.andThen_ok,Instr.slice,e1,e2,e3,hb,ZB9 hn]
         rfl
    split at hk
    .rename_i h1 h2 h3
     obtain ⟨l,m,hb,hk⟩:=ZBs (P:=P) (w:=w) (kl:=.i64) (kh:=.i64) (isS:=true) hk
     exact main _ _ _ l m cap ((hmap h1).1 rfl) ((hmap h2).1 rfl) ((hmap h3).1 rfl) hb hk
    .rename_i j i h1 h2 h3
     obtain ⟨l,m,hb,hk⟩:=ZBs (P:=P) (w:=w) (kl:=j) (kh:=.i64) (isS:=true) hk
     exact main _ _ _ l m cap ((hmap h1).2 _ rfl) ((hmap h2).1 rfl) ((hmap h3).1 rfl) hb hk
    .rename_i j i h1 h2 h3
     obtain ⟨l,m,hb,hk⟩:=ZBs (P:=P) (w:=w) (kl:=.i64) (kh:=j) (isS:=true) hk
     exact main _ _ _ l m cap ((hmap h1).1 rfl) ((hmap h2).2 _ rfl) ((hmap h3).1 rfl) hb hk
    .rename_i j i j' i' h1 h2 h3
     obtain ⟨l,m,hb,hk⟩:=ZBs (P:=P) (w:=w) (kl:=j) (kh:=j') (isS:=true) hk
     exact main _ _ _ l m cap ((hmap h1).2 _ rfl) ((hmap h2).2 _ rfl) ((hmap h3).1 rfl) hb hk
    .rename_i j i j' i' j'' i'' h1 h2 h3
     obtain ⟨l,m,c,hb,hk⟩:=ZLN (P:=P) (w:=w) (len:=len) (kl:=j) (kh:=j') (km:=j'') (isS:=true) hk
     exact main _ _ _ l m c ((hmap h1).2 _ rfl) ((hmap h2).2 _ rfl) ((hmap h3).2 _ rfl) hb hk
    .rename_i j' i' j'' i'' h1 h2 h3
     obtain ⟨l,m,c,hb,hk⟩:=ZLN (P:=P) (w:=w) (len:=len) (kl:=.i64) (kh:=j') (km:=j'') (isS:=true) hk
     exact main _ _ _ l m c ((hmap h1).1 rfl) ((hmap h2).2 _ rfl) ((hmap h3).2 _ rfl) hb hk
    .exact hk.elim
  ·rename_i s hu hx
   have main:∀ (vlo vhi:Option Value) (l m:Nat),lo.map a.eval=vlo→hi.map a.eval=vhi→mx=none→
         (Instr.sliceBounds false s.size s.size vlo vhi none).run P w=.ok (l,m,s.size) w->k (.val (.string (s.extract l m)))->ZAE A N P ⟨dst,.slice t x lo hi mx,type,pos,after,guard⟩ env a h fr w0 w k:=by
    intro vlo vhi l m e1 e2 e3 hb hk2
    clear hk
    subst e3
    refine ZAE.val R hP.good hd (he (by simp)) (v:=.string (s.extract l m)) (ev:=.val _) ?_ rfl hk2
    simp only [execOp,Instr.sliceAt,R.eval_v hx,Sem.run_bind,Zd hu,Result.andThen_ok,Instr.slice,e1,e2,Option.map_none,Option.isSome_none,Bool.false_eq_true,if_false,hb]
    rfl
   split at hk
   .rename_i j i h1 h2
    obtain ⟨l,m,hb,hk⟩:=ZBs (P:=P) (w:=w) (kl:=j) (kh:=.i64) (isS:=false) hk
    exact main _ _ l m ((hmap h1).2 _ rfl) ((hmap h2).1 rfl) rfl hb hk
   .rename_i j i h1 h2
    obtain ⟨l,m,hb,hk⟩:=ZBs (P:=P) (w:=w) (kl:=.i64) (kh:=j) (isS:=false) hk
    exact main _ _ l m ((hmap h1).1 rfl) ((hmap h2).2 _ rfl) rfl hb hk
   .rename_i j i j' i' h1 h2
    obtain ⟨l,m,hb,hk⟩:=ZBs (P:=P) (w:=w) (kl:=j) (kh:=j') (isS:=false) hk
    exact main _ _ l m ((hmap h1).2 _ rfl) ((hmap h2).2 _ rfl) rfl hb hk
   .exact hk.elim
  ·rename_i n e ad hu hx
   split at hk
   .exact hk.elim
   ·rename_i z hz
    have main:∀ (vlo vhi:Option Value) (l m:Nat),lo.map a.eval=vlo→hi.map a.eval=vhi→mx=none→
          (Instr.sliceBounds false n n vlo vhi none).run P w=.ok (l,m,n) w->k (.val (.slice (Zm (some ad) l n z) (m-l) (n-l)))->ZAE A N P ⟨dst,.slice t x lo hi mx,type,pos,after,guard⟩ env a h fr w0 w k:=by
         intro vlo vhi l m e1 e2 e3 hb hk2
         clear hk
         subst e3
         refine ZAE.val R hP.good hd (he (by simp)) (v:=.slice (Zm (some ad) l n z) (m-l) (n-l)) (ev:=.val _) ?_ rfl hk2
         have hc:(if n=l then some ad else some (ad.add (l*z)))=Zm (some ad) l n z:=by unfold Zm; split<;>rfl
         simp only [execOp,Instr.sliceAt,R.eval_v hx,Sem.run_bind,Zd hu,Result.andThen_ok,Instr.sureAddr,Sem.run_pure,e1,e2,Option.map_none,hb,ZB9 hz]
         rw [<-hc]
         split<;>rfl
    split at hk
    .rename_i h1 h2
     obtain ⟨l,m,hb,hk⟩:=ZBs (P:=P) (w:=w) (kl:=.i64) (kh:=.i64) (isS:=false) hk
     exact main _ _ l m ((hmap h1).1 rfl) ((hmap h2).1 rfl) rfl hb hk
    .rename_i j i h1 h2
     obtain ⟨l,m,hb,hk⟩:=ZBs (P:=P) (w:=w) (kl:=j) (kh:=.i64) (isS:=false) hk
     exact main _ _ l m ((hmap h1).2 _ rfl) ((hmap h2).1 rfl) rfl hb hk
    .rename_i j i h1 h2
     obtain ⟨l,m,hb,hk⟩:=ZBs (P:=P) (w:=w) (kl:=.i64) (kh:=j) (isS:=false) hk
     exact main _ _ l m ((hmap h1).1 rfl) ((hmap h2).2 _ rfl) rfl hb hk
    .rename_i j i j' i' h1 h2
     obtain ⟨l,m,hb,hk⟩:=ZBs (P:=P) (w:=w) (kl:=j) (kh:=j') (isS:=false) hk
     exact main _ _ l m ((hmap h1).2 _ rfl) ((hmap h2).2 _ rfl) rfl hb hk
    .exact hk.elim
  .exact hk.elim
 case extract x i=>
  simp only [opP] at hk
  split at hk
  .rename_i vs hx
   split at hk
   .rename_i v hv
    exact ZAE.val R hP.good hd (he (by simp)) (v:=v) (ev:=.val v) (by simp [execOp,Instr.extract,R.eval_v hx,hv]) rfl hk
   .exact hk.elim
  .exact hk.elim
 case call c=>
  simp only [opP] at hk
  obtain ⟨callee,args,ats⟩:=c
  dsimp only at hk
  split at hk
  .rename_i t v h2 h3
   have hv:=ZAj R h3
   have hargs:args.map a.eval=#[v]:=Array.ext' (by simpa using hv)
   split at hk
   .rename_i s hu
    exact ZAE.val R hP.good hd (he (by simp)) (v:=.int .i64 (s.size:Int)) (ev:=.val _) (by simp [execOp,resolve,invoke,builtin,hargs,Builtin.len_,h2,Zd hu,goInt]) rfl hk
   .rename_i n u hu
    exact ZAE.val R hP.good hd (he (by simp)) (v:=.int .i64 (n:Int)) (ev:=.val _) (by simp [execOp,resolve,invoke,builtin,hargs,Builtin.len_,h2,Zd hu,goInt]) rfl hk
   .rename_i e b n c hu
    exact ZAE.val R hP.good hd (he (by simp)) (v:=.int .i64 (n:Int)) (ev:=.val _) (by simp [execOp,resolve,invoke,builtin,hargs,Builtin.len_,h2,Zd hu,goInt]) rfl hk
   .exact hk.elim
  .rename_i j x j' y h3
   have hv:=ZAj R h3
   have hargs:args.map a.eval=#[.int j x,.int j' y]:=Array.ext' (by simpa using hv)
   exact ZAE.val R hP.good hd (he (by simp)) (v:=.int j (ZJy x y)) (ev:=.val _) (by simp [execOp,resolve,invoke,builtin,hargs,Builtin.min_,Builtin.min2,ZJy]) rfl hk
  .rename_i j x j' y h3
   have hv:=ZAj R h3
   have hargs:args.map a.eval=#[.int j x,.int j' y]:=Array.ext' (by simpa using hv)
   exact ZAE.val R hP.good hd (he (by simp)) (v:=.int j (ZVA x y)) (ev:=.val _) (by simp [execOp,resolve,invoke,builtin,hargs,Builtin.max_,Builtin.max2,ZVA]) rfl hk
  .exact hk.elim
 all_goals (simp only [cls] at hc; cases hc)
end
section
variable {P:Program} {A:Ann} {N:Nat} {bx:Nat->Nat} {env:Env} {a:Act} {h fr:Hp} {w0 w:World}
theorem ZVV {h:Hp} {w:World} (hl:h.le w) {ad:Addr} {cs:List Value} (hr:h.rds ad cs):∀ j v,cs[j]?=some v->w.cell? (ad.add j)=some v:=
 λj v hj=>Hp.cell?_le hl (hr j v hj)
theorem ZNN {c:Cdc} {t:TypeId} (hP:ZGa P A) (hf:ZAt P c t=true) {ad:Addr} {y:c.T} (hr:∀ j v,(c.enc y).cells.toList[j]?=some v→w.cell? (ad.add j)=some v):
 (loadVar t ad).run P w=.ok (c.enc y) w:=by
 simp only [ZAt,Bool.and_eq_true] at hf;obtain ⟨⟨hmem,hag⟩,hnn⟩:=hf;cases hn:ZAu P t with
 | none=>rw [hn] at hnn; cases hnn
 | some n=>
   rw [hn] at hnn;have hnn:=ZFb.1 hnn;have hag:c.agg=ZCU P t:=by simpa using hag
   have hform:=c.form hmem y;have hu:=hP.formed _ _ hn;cases hg:c.agg with
   | true=>
     rw [hg] at hform;obtain ⟨xs,hxs,hlen,_⟩:=hform;rw [hxs] at hr ⊢;have:=ZDS (P:=P) (w:=w) hn hu (cs:=xs) (by omega) (by simpa [Value.cells] using hr) (by rw [<-hag,hg]; simp);rw [this,<-hag,hg]; rfl
   | false=>
     rw [hg] at hform;obtain ⟨hone,hn1⟩:=hform;rw [ZFo hone] at hr;have:=ZDS (P:=P) (w:=w) hn hu (cs:=[c.enc y]) (by simp; omega) hr (by intro; omega);rw [this,<-hag,hg]; rfl
theorem ZXu (a:Addr) (xs:List Int) (len cap:Nat) (hlen:xs.length=len) (hr:∀ j v,(ZDs xs)[j]?=some v->w.cell? (a.add j)=some v):
 (Conv.bytesToString (.slice (some a) len cap)).run P w=.ok (.string (ZI9 xs)) w:=by
 have h1:=run_loadCells_list (P:=P) w a (ZDs xs) hr;rw [show (ZDs xs).length=len by simp [ZDs,hlen]] at h1;exact run_bytesToString w a len cap xs h1
theorem ZY0 (hP:ZGa P A) (R:Rel A N bx env a h fr w0 w) {o:Oper} {k:EV→Prop} (hk:opR A P o (look A env) h k):
 ∃ v,k (.val v)/\(execOp a.eval o).run P w=.ok (.value v) w:=by
 obtain ⟨dst,op,type,pos,after,guard⟩:=o;cases op<;>simp only [opR] at hk<;>try exact hk.elim
 case load t x=>
  split at hk
  ·rename_i c ad hc hx
   cases hf:ZAt P c t with
   | false=>rw [hf] at hk; exact hk.elim
   | true=>
     rw [hf] at hk;obtain ⟨y,hy,hk⟩:=hk;refine ⟨c.enc y,hk,?_⟩;simp only [execOp,Instr.loadAt,R.eval_v hx,Instr.sureAddr,Sem.run_bind,Sem.run_pure,Result.andThen_ok,ZNN hP hf (ZVV R.hle hy)]
  .exact hk.elim
 case convert s d x=>
  split at hk
  ·rename_i e p len cap hs hd hx
   split at hk
   ·rename_i hu
    have hgo:∀ st,(Conv.bytesToString (.slice p len cap)).run P w=.ok (.string st) w->(execOp a.eval ⟨dst,.convert s d x,type,pos,after,guard⟩).run P w=.ok (.value (.string st)) w:=by intro st hst;simp only [execOp,convert,R.eval_v hx,Sem.run_bind,Zd hs,Zd hd,Result.andThen_ok];rw [Zd hu];simp [hst]
    cases p with
    | none=>exact ⟨_,hk,hgo _ (by simp [Conv.bytesToString])⟩
    | some ad=>
      obtain ⟨xs,hl,hr,hk⟩:=hk;exact ⟨_,hk,hgo _ (ZXu ad xs len cap hl (ZVV R.hle hr))⟩
   .exact hk.elim
  .exact hk.elim
 case call c=>
  obtain ⟨callee,args,ats⟩:=c
  dsimp only at hk
  split at hk
  ·rename_i t r h2 h1
   have hv:=ZAj R h1
   have hargs:args.map a.eval=#[.chan r]:=Array.ext' (by simpa using hv)
   cases hct:ZSd P t with
   | false=>rw [hct] at hk; exact hk.elim
   | true=>
     rw [hct] at hk;simp only [cond_true] at hk;unfold ZSd at hct;cases hu:P.underlying t with
     | none=>rw [hu] at hct; cases hct
     | some d=>
       rw [hu] at hct;cases d<;>first|cases hct|skip
       cases r with
       | none=>exact ⟨_,hk,by simp [execOp,resolve,invoke,builtin,hargs,Builtin.len_,h2,Zd hu,goInt]⟩
       | some r=>
         obtain ⟨cap,buf,cl,s,r',hh,hk⟩:=hk;have hw:=R.hle _ _ hh;refine ⟨_,hk,?_⟩;have hg:(getObj r).run P w=.ok (.chan cap buf cl s r' false) w:=by simp [getObj,Sem.run,hw]
         simp [execOp,resolve,invoke,builtin,hargs,Builtin.len_,h2,Zd hu,goInt,hg]
  .exact hk.elim
theorem ZOy {zs:List Value} {sz:Nat} (hz:zs.length=sz):∀ (n i:Nat),i<n*sz→(Z3 n zs)[i]?=zs[i % sz]?:=by
 intro n;induction n with
 | zero=>intro i hi; omega
 | succ n ih=>
   intro i hi;show (zs++Z3 n zs)[i]?=_;rw [Nat.add_mul,Nat.one_mul] at hi;by_cases h:i<sz
   .rw [List.getElem?_append_left (by omega),Nat.mod_eq_of_lt h]
   .rw [List.getElem?_append_right (by omega),hz,ih (i-sz) (by omega),<-Nat.mod_eq_sub_mod (by omega)]
theorem ZPx {zs:List Value} {sz:Nat} (hz:zs.length=sz) (n:Nat):(Z3 n zs).length=n*sz:=by
 induction n with
 | zero=>simp [Z3]
 | succ n ih=>
   show (zs++Z3 n zs).length=_;rw [List.length_append,ih,hz,Nat.add_mul,Nat.one_mul,Nat.add_comm]
theorem ZH4 {z:Array Value} {sz:Nat} (hz:z.size=sz) (n:Nat):madeCells z (n*sz)=(Z3 n z.toList).toArray:=by
 apply Array.ext';apply List.ext_getElem?;intro i;by_cases hi:i<n*sz
 .have h0:0<sz:=Nat.pos_of_ne_zero (by rintro rfl; omega);rw [show (Z3 n z.toList).toArray.toList=Z3 n z.toList from rfl,ZOy (sz:=sz) (by simpa using hz) n i hi];have hm:i % sz<z.size:=by rw [hz]; exact Nat.mod_lt _ h0
  simp only [madeCells,Array.toList_map,Array.toList_range,List.getElem?_map,hz];rw [List.getElem?_range hi];simp [hm]
 .rw [List.getElem?_eq_none (by simp [madeCells]; omega),List.getElem?_eq_none (by rw [show (Z3 n z.toList).toArray.toList=Z3 n z.toList from rfl,ZPx (sz:=sz) (by simpa using hz)]; omega)]
theorem ZY1 (hP:ZGa P A) (R:Rel A N bx env a h fr w0 w) {o:Oper} {k:Obj→(Nat→Value)→Prop} (hk:opA P o (look A env) k):
 ∃ ob f,k ob f/\(execOp a.eval o).run P w=.ok (.value (f w.heap.size)) (w.alloc ob):=by
 obtain ⟨dst,op,type,pos,after,guard⟩:=o;cases op<;>simp only [opA] at hk<;>try exact hk.elim
 case alloc elem=>
  split at hk
  .rename_i z hz
   exact ⟨_,_,hk,by simp [execOp,Instr.alloc,ZDO hz,newVar,newRow]⟩
  .exact hk.elim
 case box elem x=>
  split at hk
  .rename_i z hz
   exact ⟨_,_,hk,by simp [execOp,Instr.box,R.eval_v hz,newVar,newRow]⟩
  .exact hk.elim
 case buildSlice t len ps=>
  split at hk
  ·rename_i e l hu hl
   have hl':=ZGG R hl
   split at hk
   ·rename_i n z hn hz
    cases hb:Nat.ble (len*n) 16777216 with
    | false=>rw [hb] at hk; exact hk.elim
    | true=>
      rw [hb] at hk;simp only [cond_true] at hk;have hb:=Nat.le_of_ble_eq_true hb;split at hk
      .rename_i cs hf;refine ⟨_,_,hk,?_⟩;have hps:ps.map (λx=>(x.1,a.eval x.2))=l.toArray:=Array.ext' (by simp [<-hl']);simp only [execOp,Instr.buildSlice,Sem.run_bind,Zd hu,Result.andThen_ok,ZB9 hn];rw [if_neg (by omega)];by_cases h0:len*n=0
       .simp only [h0,if_true,Sem.run_pure,Result.andThen_ok,Sem.run_bind] at hf ⊢;simp only [hps];have:(Array.map (λx=>(#[]:Array Value)[x % (#[]:Array Value).size]!) (Array.range 0))=Array.map (λx=>z.cells[x % z.cells.size]!) (Array.range 0):=by simp
        rw [this,hf];simp [newRow]
       .simp only [h0,if_false,Sem.run_bind,ZDO hz,Sem.run_pure,Result.andThen_ok];simp only [hps];rw [hf];simp [newRow]
      .exact hk.elim
   .exact hk.elim
  .exact hk.elim
 case makeSlice t l c=>
  split at hk
  ·rename_i e kn n km m hu hl hc
   split at hk
   ·rename_i z hz
    cases hq:ZD4 P e with
    | false=>rw [hq] at hk; exact hk.elim
    | true=>
      rw [hq] at hk;obtain ⟨h0,h1,h2,h3,hk⟩:=hk;refine ⟨_,_,hk,?_⟩;unfold ZD4 at hq;split at hq
      .rename_i i hi;rw [show i.zero=some z from by simpa [ZDM,hi] using hz] at hq;have hsz:z.cells.size=i.size:=Nat.eq_of_beq_eq_true hq;have hb:ZA2 P e=i.bytes:=by simp [ZA2,hi]
       rw [hb] at h3;have hr:=run_make (P:=P) w t e i z hu hi (by simpa [ZDM,hi] using hz) kn km n m h0 h1 (by omega) (by omega);rw [ZH4 hsz] at hr;simp [execOp,R.eval_v hl,R.eval_v hc,hr]
      .cases hq
   .exact hk.elim
  .exact hk.elim
 case makeChan t n=>
  split at hk
  ·rename_i dir e kn n hu hn
   split at hk
   ·rename_i sz hs
    obtain ⟨h0,h1,h2,hk⟩:=hk
    refine ⟨_,_,hk,?_⟩
    obtain ⟨i,hi,_,hb⟩:=ZL7 hs
    rw [<-hb] at h2
    have n1:¬(n<0∨n>IntKind.i64.max∨(i.bytes:Int)*n>2 ^ 48-112):=by
         have:IntKind.i64.max=9223372036854775807:=by decide
         omega
    simp only [execOp,Instr.makeChan,R.eval_v hn,asInt,asIntOf,Sem.run_bind,Sem.run_pure,Result.andThen_ok,Zd hu,ZIu hi,if_neg n1,run_newObj]
    rfl
   .exact hk.elim
  .exact hk.elim
 case makeMap t r=>
  split at hk
  .refine ⟨_,_,hk,?_⟩
   simp only [execOp,Instr.makeMap,Option.map_none,Sem.run_bind,Sem.run_pure,Result.andThen_ok,run_newObj]
   rfl
  .exact hk.elim
end
section
variable {P:Program} {A:Ann} {N:Nat} {bx:Nat->Nat} {env:Env} {a:Act} {h fr:Hp} {w0 w:World}
structure ZAe (h fr h':Hp) (w w':World):Prop where
 hle:h'.le w'
 frle:fr.le w'
 dj:h'.dj fr
 same:ZF0 w w'
 keep:∀ b,b<w.heap.size->h b=none->fr b=none->w'.heap[b]?=w.heap[b]?/\h' b=none
def Zah (P:Program) (o:Oper) (a:Act) (w:World) (h fr:Hp) (k:EV→Hp→Prop):Prop:=
 (∃ ev v h' w',k ev h'/\(ev=.val v\/ev=.unk)/\(execOp a.eval o).run P w=.ok (.value v) w'/\ZAe h fr h' w w')\/
 (∃ h' w',k .unk h'/\(execOp a.eval o).run P w=.ok .skip w'/\ZAe h fr h' w w')\/
 (∃ f args,(execOp a.eval o).run P w=.ok (.enter f args) w/\ZHt P f args h λv h'=>k (.val v) h')\/
 (∃ v h' w' cs,k (.val v) h'/\(execOp a.eval o).run P w=.ok (.comm cs false .select) w/\ZAe h fr h' w w'/\
   ∀ (f:Frame) (l:List Frame) (es:Array Event),stepG P true (Conc.G f l) w=.comm (Conc.G f l) cs false .select w es->step P (Conc.solo (Conc.G f l) w)=.next (Conc.solo (Conc.G (f.finish v) l) w'))
theorem ZAe.wrs (hle:h.le w) (frle:fr.le w) (dj:h.dj fr) (ad:Addr) (vs:List Value) (hb:vs=[]∨h ad.block≠none):
 ZAe h fr (h.wrs ad 0 vs) w (wrW w ad 0 vs):=by
 refine ⟨ZYw ad vs 0 h w hle,?_,?_,ZOA ad vs 0 w,?_⟩
 ·rcases hb with rfl|hb
  .exact frle
  .intro k o hk;have:k≠ad.block:=by
    rintro rfl;rcases dj ad.block with e|e
    .exact hb e
    .rw [e] at hk; cases hk
   rw [ZL8 ad vs 0 w k this]; exact frle k o hk
 .intro b;rw [ZGp]; exact dj b
 .intro b _ h1 _;refine ⟨?_,by rw [ZGp]; exact h1⟩;rcases hb with rfl|hb
  .rfl
  .exact ZL8 ad vs 0 w b (by rintro rfl; exact hb h1)
theorem ZAe.alloc (hle:h.le w) (frle:fr.le w) (dj:h.dj fr) (o:Obj):ZAe h fr (h.upd w.heap.size o) w (w.alloc o):=by refine ⟨Hp.upd_le hle o,Hp.le_alloc frle o,Hp.upd_dj dj (Hp.le_lt frle (Nat.le_refl _)) o,⟨rfl,rfl,rfl⟩,?_⟩;intro b hb h1 _;refine ⟨?_,by simp only [Hp.upd,if_neg (show b≠w.heap.size by omega)]; exact h1⟩;show (w.heap.push o)[b]?=_;rw [Array.getElem?_push,if_neg (by omega)]
theorem ZAe.refl (hle:h.le w) (frle:fr.le w) (dj:h.dj fr):ZAe h fr h w w:=⟨hle,frle,dj,ZF0.refl w,λ_ _ h1 _=>⟨rfl,h1⟩⟩
theorem ZAe.drew {h':Hp} {w':World} (s:ZAe h fr h' w.drew w'):ZAe h fr h' w w':=
 ⟨s.hle,s.frle,s.dj,⟨s.same.os,s.same.tape,s.same.output⟩,s.keep⟩
theorem ZR0 (hle:h.le w) {ad:Addr} {n:Nat} (hm:h.may ad n):∀ j,j<n->(∃ v,w.cell? (ad.add (0+j))=some v)/\w.frozen? (ad.add (0+j))=false:=by intro j hj;obtain ⟨⟨v,hv⟩,hf⟩:=hm j hj;rw [Nat.zero_add];exact ⟨⟨v,Hp.cell?_le hle hv⟩,by rw [Hp.frozen?_le hle hv]; exact hf⟩
theorem ZDP {ad:Addr} {n:Nat} (hm:h.may ad n) (hn:0<n):h ad.block≠none:=by obtain ⟨⟨v,hv⟩,_⟩:=hm 0 hn;have:=Hp.cell_block hv;rwa [ZJ6] at this
theorem ZAh {c:Cdc} (hm:c.mem=true) (x:c.T):(c.enc x).cells.size=c.n∧∀ v∈(c.enc x).cells.toList,ZF7 v=true:=by
 have hf:=c.form hm x;cases hg:c.agg with
 | true=>
   rw [hg] at hf;obtain ⟨cs,e,hl,ho⟩:=hf;rw [e];simp only [Value.cells];exact ⟨by simpa using hl,by simpa using ho⟩
 | false=>
   rw [hg] at hf;obtain ⟨ho,hn⟩:=hf;rw [ZFo ho];exact ⟨by simp [hn],by simpa using ho⟩
theorem Zf {c:Cdc} (hm:c.mem=true):∀ xs:List c.T,(ZG c xs).length=xs.length*c.n:=by
 intro xs;induction xs with
 | nil=>simp [ZG]
 | cons x l ih=>
   simp only [ZG,List.flatMap_cons,List.length_append,List.length_cons] at ih ⊢;rw [ih,show (c.enc x).cells.toList.length=c.n by simpa using (ZAh hm x).1];rw [Nat.add_mul]; omega
theorem ZEY {c:Cdc} (hm:c.mem=true) (xs:List c.T):∀ v∈ZG c xs,ZF7 v=true:=by intro v hv;simp only [ZG,List.mem_flatMap] at hv;obtain ⟨x,_,hx⟩:=hv;exact (ZAh hm x).2 v hx
theorem ZRA (need:Nat):∀ (r c:Nat),c≤need→Builtin.growBy need r c≤2*need+192:=by
 intro r;induction r with
 | zero=>intro c hc; simp [Builtin.growBy]; omega
 | succ r ih=>
   intro c hc;unfold Builtin.growBy;split
   .omega
   ·by_cases h:c+(c+768) / 4≤need
    .exact ih _ h
    .have:Builtin.growBy need r (c+(c+768) / 4)=c+(c+768) / 4:=by
      cases r with
      | zero=>rfl
      | succ r=>unfold Builtin.growBy; rw [if_pos (by omega)]
     rw [this]; omega
theorem ZEH (need cap:Nat) (h:cap<need):Builtin.nextslicecap need cap<=2*need+192:=by
 unfold Builtin.nextslicecap;split
 .omega
 .split
  .omega
  .exact ZRA need 4 cap (by omega)
theorem ZCG {c:Cdc} (hm:c.mem=true) {b:Option Addr} {len:Nat} {K:List c.T→Prop} (he:ZCM c b len h K):
 ∃ xs:List c.T,xs.length=len/\K xs/\∀ (P:Program) (w:World) (cap:Nat),h.le w->(Builtin.firstCells c.n len (.slice b len cap)).run P w=.ok (ZG c xs).toArray w:=by
 cases b with
 | none=>
   obtain ⟨rfl,hk⟩:=he;exact ⟨[],rfl,hk,λ_ _ _ _=>rfl⟩
 | some ad=>
   obtain ⟨xs,hl,hr,hk⟩:=he;refine ⟨xs,hl,hk,λP w cap hle=>?_⟩;have:=run_loadCells_list (P:=P) w ad (ZG c xs) (ZVV hle hr);rw [Zf hm,hl] at this;exact this
theorem ZDB (z:Array Value) (n:Nat):(Builtin.zeroCells z n).size=n*z.size:=by simp [Builtin.zeroCells]
theorem ZPU {c:Cdc} {e t u u' ty:TypeId} {bytes:Nat} {ats:Array TypeId} (ht:ats[0]?=some t) (hu1:ats[1]?=some u) (ht':P.underlying t=some (.slice e)) (hu':P.underlying u=some (.slice u'))
 (hf:ZAt P c e=true) (hb:bytes=ZA2 P e) (hb1:1<=bytes) (hb2:bytes<=1048576) (hz:ZD4 P e=true) {p q:Option Addr} {len cap n cap':Nat} {K:Option Addr->Nat->Nat->Hp->Prop}
 (hle:h.le w) (frle:fr.le w) (dj:h.dj fr) (hk:ZX c e bytes p len cap q n h K):
 ∃ p' l' c' h' w',K p' l' c' h'/\(Builtin.append_ ats ty #[.slice p len cap,.slice q n cap']).run P w=.ok (.slice p' l' c') w'/\ZAe h fr h' w w':=by
 have hf':=hf
 simp only [ZAt,Bool.and_eq_true] at hf'
 obtain ⟨⟨hm,_⟩,hn⟩:=hf'
 cases hs:ZAu P e with
 | none=>rw [hs] at hn; cases hn
 | some sz=>
   rw [hs] at hn
   have hn:=ZFb.1 hn
   subst hn
   obtain ⟨i,hi,hi1,hi2⟩:=ZL7 hs
   obtain ⟨z,hz,hzs⟩:∃ z,ZDM P e=some z∧∀ n,ZAu P e=some n→z.cells.size=n:=by
    unfold ZD4 at hz
    unfold ZDM ZAu
    split at hz
    .rename_i i' hi'
     split at hz
     .rename_i z hz'
      exact ⟨z,hz',λn h=>by cases h; exact Nat.eq_of_beq_eq_true hz⟩
     .cases hz
    .cases hz
   unfold ZX at hk
   obtain ⟨ys,hyl,⟨hk1,hk2⟩,hry0⟩:=ZCG hm hk
   have hry:=hry0 P w cap' hle
   have hone:=ZEY hm ys
   have hlen:=Zf hm ys
   have g0:(#[.slice p len cap,.slice q n cap']:Array Value)[0]?=some (.slice p len cap):=rfl
   have g1:(#[.slice p len cap,.slice q n cap']:Array Value)[1]?=some (.slice q n cap'):=rfl
   unfold Builtin.append_
   simp only [ht,hu1,g0,g1,Sem.run_bind,Zd ht',Zd hu',Result.andThen_ok,ZB9 hs,Sem.run_pure,Builtin.lenOf,Bool.false_eq_true,if_false,Bool.not_false,if_true]
   by_cases hc:len+n<=cap
   ·have hk1:=hk1 hc
    rw [if_pos hc]
    cases p with
    | none=>
      refine ⟨_,_,_,h,w,hk1,?_,ZAe.refl hle frle dj⟩
      simp [hry]
    | some ad=>
      obtain ⟨hmay,hk1⟩:=hk1
      have hsc:=ZBh (P:=P) (ad.add (len*c.n)) (ZG c ys) 0 w (by rw [hlen,hyl]; exact ZR0 hle hmay) hone
      refine ⟨_,_,_,_,_,hk1,?_,ZAe.wrs hle frle dj (ad.add (len*c.n)) (ZG c ys) ?_⟩
      .simp [hry,hsc]
      .by_cases h0:n*c.n=0
       .left
        apply List.eq_nil_of_length_eq_zero
        rw [hlen,hyl]; exact h0
       .right; exact ZDP hmay (by omega)
   ·rw [if_neg hc]
    obtain ⟨hroom,hold⟩:=hk2 (by omega)
    obtain ⟨xs,hxl,hK,hrx⟩:=ZCG hm hold
    have hb0:i.bytes=bytes:=by rw [hi2,hb]
    have hne:len+n<=ZAR:=Nat.le_trans (Nat.le_mul_of_pos_right _ (by omega)) hroom
    have hcap:Builtin.nextslicecap (len+n) cap*i.bytes≤2 ^ 48:=by
     have h1:=ZEH (len+n) cap (by omega)
     rw [hb0]
     calc Builtin.nextslicecap (len+n) cap*bytes≤(2*(len+n)+192)*bytes:=Nat.mul_le_mul_right _ h1
         _=2*((len+n)*bytes)+192*bytes:=by rw [Nat.add_mul,Nat.mul_assoc]
         _<=2 ^ 48:=by unfold ZAR at hroom; omega
    have hg1:¬(((len+n:Nat):Int)>IntKind.i64.max/\i.bytes=0):=by rintro ⟨_,h0⟩; omega
    -- the tape's answer
    obtain ⟨nc,hnc,hch⟩:∃ nc,len+n<=nc/\(choose (.appendCap (len+n) cap e)).run P w=.ok nc w.drew:=by
     refine ⟨_,?_,by rw [run_choose]; simp only [Question.forced,Bool.false_eq_true,if_false]; rfl⟩
     simp only [Question.cut]; omega
    have hpad:(Builtin.zeroCells z.cells (nc-(len+n))).toList.length=(nc-(len+n))*c.n:=by
     simp [ZDB,hzs c.n hs]
    have hK:=hK nc (Builtin.zeroCells z.cells (nc-(len+n))).toList hnc hpad w.heap.size (Hp.le_lt hle (Nat.le_refl _))
    have hrx':=hrx P w.drew cap hle
    have hry':=hry0 P w.drew cap' hle
    refine ⟨_,_,_,_,_,hK,?_,ZAe.drew (ZAe.alloc (w:=w.drew) hle frle dj _)⟩
    simp only [ZIu hi,Sem.run_bind,Result.andThen_ok,Sem.run_ite,false_or]
    rw [if_neg hg1]
    simp only [Sem.run_pure]
    rw [if_neg (by omega)]
    simp only [Sem.run_pure,Result.andThen_ok,hch,run_askRoom,hrx',hry',ZDO hz,newRow,Sem.run_bind,run_newObj]
    congr 3
    simp
theorem ZUN {c:Cdc} {e t ty:TypeId} {ats:Array TypeId} (ht:ats[0]?=some t) (ht':P.underlying t=some (.slice e))
 (hf:ZAt P c e=true) {p q:Option Addr} {len cap n cap':Nat} {K:Int->Hp->Prop}
 (hle:h.le w) (frle:fr.le w) (dj:h.dj fr) (hk:ZBG c p len q n h K):
 ∃ m h' w',K m h'/\(Builtin.copy_ ats ty #[.slice p len cap,.slice q n cap']).run P w=.ok (.int .i64 m) w'/\ZAe h fr h' w w':=by
 simp only [ZAt,Bool.and_eq_true] at hf;obtain ⟨⟨hm,_⟩,hn⟩:=hf;cases hs:ZAu P e with
 | none=>rw [hs] at hn; cases hn
 | some sz=>
   rw [hs] at hn;have hn:=ZFb.1 hn;subst hn;unfold ZBG at hk;obtain ⟨ys,hyl,hk,hry0⟩:=ZCG hm hk;have hry:(Builtin.firstCells c.n (min n len) (.slice q n cap')).run P w=.ok (ZG c ys).toArray w:=by
    have:=hry0 P w cap' hle;cases q with
    | none=>exact this
    | some ad=>exact this
   have hone:=ZEY hm ys;have hlen:=Zf hm ys;have g0:(#[.slice p len cap,.slice q n cap']:Array Value)[0]?=some (.slice p len cap):=rfl;have g1:(#[.slice p len cap,.slice q n cap']:Array Value)[1]?=some (.slice q n cap'):=rfl;unfold Builtin.copy_;simp only [ht,g0,g1,Sem.run_bind,Zd ht',Result.andThen_ok,ZB9 hs,Sem.run_pure,Builtin.lenOf];rw [show Nat.min n len=min n len from rfl,hry];simp only [Result.andThen_ok];cases p with
   | none=>exact ⟨_,h,w,hk,by simp [goInt],ZAe.refl hle frle dj⟩
   | some ad=>
     obtain ⟨hmay,hk⟩:=hk;have hsc:=ZBh (P:=P) ad (ZG c ys) 0 w (by rw [hlen,hyl]; exact ZR0 hle hmay) hone;refine ⟨_,_,_,hk,by simp [hsc,goInt],ZAe.wrs hle frle dj ad (ZG c ys) ?_⟩;by_cases h0:min n len*c.n=0
     .left;apply List.eq_nil_of_length_eq_zero;rw [hlen,hyl]; exact h0
     .right; exact ZDP hmay (by omega)
theorem ZDr {c:Cdc} {z:Value} {x:c.T} (hm:c.mem=true) (hz:z=c.enc x) (n:Nat):(Builtin.zeroCells z.cells n).toList=ZG c (List.replicate n x):=by
 subst hz;have hsz:=(ZAh hm x).1;apply List.ext_getElem?;intro i;have hl:=Zf hm (List.replicate n x);simp only [List.length_replicate] at hl;by_cases hi:i<n*c.n
 ·have hcn:0<c.n:=Nat.pos_of_ne_zero (by rintro h0; rw [h0] at hi; omega)
  have key:∀ n i,i<n*c.n→(ZG c (List.replicate n x))[i]?=(c.enc x).cells[i % c.n]?:=by
   intro n;induction n with
   | zero=>intro i hi; omega
   | succ n ih=>
     intro i hi;rw [List.replicate_succ];simp only [ZG,List.flatMap_cons] at ih ⊢;by_cases h1:i<c.n
     .rw [List.getElem?_append_left (by simpa [hsz] using h1),Nat.mod_eq_of_lt h1]; simp
     .rw [List.getElem?_append_right (by simp [hsz]; omega)];simp only [Array.length_toList,hsz];have hi':i-c.n<n*c.n:=by rw [Nat.add_mul] at hi; omega
      rw [ih (i-c.n) hi',<-Nat.mod_eq_sub_mod (by omega)]
  rw [key n i hi];have h2:i % c.n<(c.enc x).cells.size:=by rw [hsz]; exact Nat.mod_lt _ hcn
  simp [Builtin.zeroCells,hsz,hi];rw [getElem!_pos (c.enc x).cells _ h2,getElem?_pos (c.enc x).cells _ h2]
 .rw [List.getElem?_eq_none (by simp [ZDB,hsz]; omega),List.getElem?_eq_none (by omega)]
theorem ZUm {c:Cdc} {e t u ty:TypeId} {k:IntKind} {bytes:Nat} {ats:Array TypeId} (ht:ats[0]?=some t) (hu1:ats[1]?=some u) (ht':P.underlying t=some (.slice e)) (hu':P.underlying u=some (.int k))
 (hf:ZAt P c e=true) (hb:bytes=ZA2 P e) (hb1:1<=bytes) (hb2:bytes<=1048576) {zv:Value} {z:c.T} (hzv:ZDM P e=some zv) (hzz:zv=c.enc z) {p:Option Addr} {len cap:Nat} {j:IntKind} {n:Int} {K:Option Addr->Nat->Nat->Hp->Prop}
 (hle:h.le w) (frle:fr.le w) (dj:h.dj fr) (hk:ZHp c z e bytes p len cap n h K):
 ∃ p' l' c' h' w',K p' l' c' h'/\(Builtin.append_ ats ty #[.slice p len cap,.int j n]).run P w=.ok (.slice p' l' c') w'/\ZAe h fr h' w w':=by
 have hf':=hf
 simp only [ZAt,Bool.and_eq_true] at hf'
 obtain ⟨⟨hm,_⟩,hn⟩:=hf'
 cases hs:ZAu P e with
 | none=>rw [hs] at hn; cases hn
 | some sz=>
   rw [hs] at hn
   have hn:=ZFb.1 hn
   subst hn
   obtain ⟨i,hi,hi1,hi2⟩:=ZL7 hs
   obtain ⟨h0,hnb,hk1,hk2⟩:=hk
   have hb0:i.bytes=bytes:=by rw [hi2,hb]
   have hnr:n.toNat<=ZAR:=Nat.le_trans (Nat.le_mul_of_pos_right _ (by omega)) hnb
   have hnl:n<=1099511627776:=by unfold ZAR at hnr; omega
   have hwr:IntKind.i64.wrap n=n:=by rw [IntKind.wrap_i64]; omega
   have hnb':¬(n*(i.bytes:Int)>2 ^ 48):=by
    have:(n.toNat:Int)*(bytes:Int)<=(ZAR:Int):=by exact_mod_cast hnb
    rw [show (n.toNat:Int)=n by omega] at this
    rw [hb0]
    unfold ZAR at this
    omega
   have g0:(#[.slice p len cap,.int j n]:Array Value)[0]?=some (.slice p len cap):=rfl
   have g1:(#[.slice p len cap,.int j n]:Array Value)[1]?=some (.int j n):=rfl
   have hzc:∀ m,(Builtin.zeroCells zv.cells m).toList=ZG c (List.replicate m z):=λm=>ZDr hm hzz m
   have hzs:zv.cells.size=c.n:=by rw [hzz]; exact (ZAh hm z).1
   have hasint:asInt (.int j n)=pure n:=rfl
   -- what is appended
   have happ:∀ w:World,((if n.toNat*c.n=0 then pure #[] else do pure (Builtin.zeroCells (←zeroValue e).cells n.toNat):Sem (Array Value))).run P w=.ok (ZG c (List.replicate n.toNat z)).toArray w:=by
    intro w
    by_cases h1:n.toNat*c.n=0
    ·rw [if_pos h1]
     have:ZG c (List.replicate n.toNat z)=[]:=by
         apply List.eq_nil_of_length_eq_zero
         rw [Zf hm]; simpa using h1
     rw [this]; rfl
    .rw [if_neg h1]
     simp only [Sem.run_bind,ZDO hzv,Result.andThen_ok,Sem.run_pure]
     rw [<-hzc]
   have hone:=ZEY hm (List.replicate n.toNat z)
   have hlen:=Zf hm (List.replicate n.toNat z)
   rw [List.length_replicate] at hlen
   unfold Builtin.append_
   simp only [ht,hu1,g0,g1,Sem.run_bind,Zd ht',Zd hu',Result.andThen_ok,ZB9 hs,Sem.run_pure,hasint,hwr,if_true,ZIu hi,if_neg (show ¬n<0 by omega),if_neg hnb',Bool.not_true,Bool.false_eq_true,if_false]
   by_cases hc:len+n.toNat<=cap
   ·have hk1:=hk1 hc
    rw [if_pos hc]
    cases p with
    | none=>
      refine ⟨_,_,_,h,w,hk1,?_,ZAe.refl hle frle dj⟩
      simp only [Sem.run_bind,happ,Result.andThen_ok,Sem.run_pure]
    | some ad=>
      obtain ⟨hmay,hk1⟩:=hk1
      have hsc:=ZBh (P:=P) (ad.add (len*c.n)) (ZG c (List.replicate n.toNat z)) 0 w (by rw [hlen]; exact ZR0 hle hmay) hone
      refine ⟨_,_,_,_,_,hk1,?_,ZAe.wrs hle frle dj (ad.add (len*c.n)) (ZG c (List.replicate n.toNat z)) ?_⟩
      .simp only [Sem.run_bind,happ,Result.andThen_ok,Sem.run_pure,hsc]
      .by_cases h0:n.toNat*c.n=0
       .left
        apply List.eq_nil_of_length_eq_zero
        rw [hlen]; exact h0
       .right; exact ZDP hmay (by omega)
   ·rw [if_neg hc]
    obtain ⟨hroom,hold⟩:=hk2 (by omega)
    obtain ⟨xs,hxl,hK,hrx⟩:=ZCG hm hold
    have hne:len+n.toNat<=ZAR:=Nat.le_trans (Nat.le_mul_of_pos_right _ (by omega)) hroom
    have hcap:Builtin.nextslicecap (len+n.toNat) cap*i.bytes≤2 ^ 48:=by
     have h1:=ZEH (len+n.toNat) cap (by omega)
     rw [hb0]
     calc Builtin.nextslicecap (len+n.toNat) cap*bytes≤(2*(len+n.toNat)+192)*bytes:=Nat.mul_le_mul_right _ h1
         _=2*((len+n.toNat)*bytes)+192*bytes:=by rw [Nat.add_mul,Nat.mul_assoc]
         _<=2 ^ 48:=by unfold ZAR at hroom; omega
    have hg1:¬(((len+n.toNat:Nat):Int)>IntKind.i64.max/\(True\/i.bytes=0)):=by
     rintro ⟨hgt,_⟩
     unfold ZAR at hne
     have:IntKind.i64.max=9223372036854775807:=by decide
     rw [this] at hgt
     omega
    obtain ⟨nc,hnc,hch⟩:∃ nc,len+n.toNat<=nc/\(choose (.appendCap (len+n.toNat) cap e)).run P w=.ok nc w.drew:=by
     refine ⟨_,?_,by rw [run_choose]; simp only [Question.forced,Bool.false_eq_true,if_false]; rfl⟩
     simp only [Question.cut]; omega
    have hpad:(ZG c (List.replicate n.toNat z)++(Builtin.zeroCells zv.cells (nc-(len+n.toNat))).toList).length=(nc-len)*c.n:=by
     rw [List.length_append,hlen]
     simp only [Array.length_toList,ZDB,hzs]
     rw [<-Nat.add_mul]
     congr 1; omega
    have hK:=hK nc _ hnc hpad w.heap.size (Hp.le_lt hle (Nat.le_refl _))
    have hrx':=hrx P w.drew cap hle
    refine ⟨_,_,_,_,_,hK,?_,ZAe.drew (ZAe.alloc (w:=w.drew) hle frle dj _)⟩
    simp only [ZIu hi,Sem.run_bind,Result.andThen_ok,Sem.run_ite]
    rw [if_neg (by simpa using hg1)]
    simp only [Sem.run_pure]
    rw [if_neg (by omega)]
    simp only [Sem.run_pure,Result.andThen_ok,hch,run_askRoom,hrx',ZDO hzv,newRow,Sem.run_bind,run_newObj]
    have hza:Builtin.zeroCells zv.cells n.toNat=(ZG c (List.replicate n.toNat z)).toArray:=by rw [<-hzc]
    by_cases h1:n.toNat*c.n=0
    ·have hnil:ZG c (List.replicate n.toNat z)=[]:=by
         apply List.eq_nil_of_length_eq_zero
         rw [hlen]; exact h1
     simp only [hnil,if_pos h1,Result.andThen_ok]
     congr 3
     simp
    .simp only [if_neg h1,Result.andThen_ok,hza]
     congr 3
     simp
theorem ZRu {c:Cdc} {e t ty:TypeId} {ats:Array TypeId} (ht:ats[0]?=some t) (ht':P.underlying t=some (.slice e))
 (hf:ZAt P c e=true) {z:Value} {x:c.T} (hz:ZDM P e=some z) (hx:z=c.enc x) {p:Option Addr} {n cap:Nat} {K:Hp->Prop}
 (hle:h.le w) (frle:fr.le w) (dj:h.dj fr) (hk:ZEC c x p n h K):
 ∃ h' w',K h'/\(Builtin.clear_ ats ty #[.slice p n cap]).run P w=.ok (.tuple #[]) w'/\ZAe h fr h' w w':=by
 simp only [ZAt,Bool.and_eq_true] at hf;obtain ⟨⟨hm,_⟩,hn⟩:=hf;have g0:(#[.slice p n cap]:Array Value)[0]?=some (.slice p n cap):=rfl;unfold ZEC at hk;unfold Builtin.clear_;simp only [ht,g0,Sem.run_bind,Zd ht',Result.andThen_ok];cases p with
 | none=>exact ⟨h,w,hk,by simp,ZAe.refl hle frle dj⟩
 | some ad=>
   obtain ⟨hmay,hk⟩:=hk;have hlen:=Zf hm (List.replicate n x);simp only [List.length_replicate] at hlen;have hsc:=ZBh (P:=P) ad (ZG c (List.replicate n x)) 0 w (by rw [hlen]; exact ZR0 hle hmay) (ZEY hm _);cases n with
   | zero=>exact ⟨_,_,hk,by simp [ZG,wrW],ZAe.wrs hle frle dj ad _ (by left; simp [ZG])⟩
   | succ n=>
     refine ⟨_,_,hk,?_,ZAe.wrs hle frle dj ad (ZG c (List.replicate (n+1) x)) ?_⟩
     .simp [ZDO hz,ZDr hm hx,hsc]
     .by_cases h0:(n+1)*c.n=0
      .left;apply List.eq_nil_of_length_eq_zero;rw [hlen]; exact h0
      .right; exact ZDP hmay (by omega)
theorem ZMk {e:TypeId} {s:ByteArray} {K:Nat→Nat→Hp→Prop} (hle:h.le w) (frle:fr.le w) (dj:h.dj fr) (hk:ZNZ e s h K):
 ∃ b cap h' w',K b cap h'/\(Conv.stringToBytes e s).run P w=.ok (.slice (some ⟨b,0,none⟩) s.size cap) w'/\ZAe h fr h' w w':=by
 obtain ⟨nc,hnc,hch⟩:∃ nc,s.size<=nc/\(choose (.appendCap s.size 0 e)).run P w=.ok nc w.drew:=by refine ⟨_,?_,by rw [run_choose]; simp only [Question.forced,Bool.false_eq_true,if_false]; rfl⟩;simp only [Question.cut]; omega
 have hK:=hk nc (List.replicate (nc-s.size) (.int .u8 0)) w.heap.size hnc (by simp) (Hp.le_lt hle (Nat.le_refl _));let cells:Array Value:=(ZDs (s.data.toList.map λ(x:UInt8)=>(x.toNat:Int))++List.replicate (nc-s.size) (Value.int .u8 0)).toArray;have hcells:(s.data.map λb=>Value.int .u8 b.toNat)++Array.replicate (nc-s.size) (.int .u8 0)=cells:=by apply Array.ext';simp [cells,ZDs]
 have hsize:cells.size=nc:=by show (ZDs _++_).length=nc;simp [ZDs];show s.size+_=nc;omega
 refine ⟨_,_,_,((w.drew).alloc (.cells cells e)).freeze ⟨w.heap.size,nc,none⟩ 1,hK,?_,?_⟩
 .unfold Conv.stringToBytes;simp only [Sem.run_bind,hch,Result.andThen_ok,hcells,newRow,run_newObj,Sem.run_pure,markStringish];have hsh:(({w.drew with heap:=w.drew.heap.push (.cells cells e)}:World)).shape? w.drew.heap.size=some (e,nc):=by
   have h9:(w.drew.heap.push (Obj.cells cells e))[w.drew.heap.size]?=some (.cells cells e):=by show (w.heap.push (Obj.cells cells e))[w.heap.size]?=_;simp
   unfold World.shape?;dsimp only;rw [h9];simp only [hsize]
  simp only [run_shape,hsh,Result.andThen_ok,run_freeze];rfl
 .have hblk:(((w.drew).alloc (.cells cells e)).freeze ⟨w.heap.size,nc,none⟩ 1).heap[w.heap.size]?=some (.cells cells e (nc,nc+1)):=by simp only [World.freeze,Nat.one_ne_zero,if_false,Array.getElem?_modify,if_true];show (Option.map _ ((w.heap.push (.cells cells e))[w.heap.size]?))=_;simp
  have hold:∀ k,k≠w.heap.size->(((w.drew).alloc (.cells cells e)).freeze ⟨w.heap.size,nc,none⟩ 1).heap[k]?=w.heap[k]?:=by intro k hk;simp only [World.freeze,Nat.one_ne_zero,if_false,Array.getElem?_modify];rw [if_neg (Ne.symm hk)];show (w.heap.push _)[k]?=_;rw [Array.getElem?_push,if_neg hk]
  refine ⟨?_,?_,Hp.upd_dj dj (Hp.le_lt frle (Nat.le_refl _)) _,?_,?_⟩
  .intro k o hk;unfold Hp.upd at hk;split at hk
   .rename_i ek; subst ek; cases hk; exact hblk
   .rename_i ek; rw [hold k ek]; exact hle k o hk
  .intro k o hk;rw [hold k (by rintro rfl; rw [Hp.le_lt frle (Nat.le_refl _)] at hk; cases hk)]; exact frle k o hk
  .refine ⟨?_,?_,?_⟩<;>simp [World.freeze]<;>rfl
  .intro b hb h1 _;exact ⟨hold b (by omega),by simp only [Hp.upd,if_neg (show b≠w.heap.size by omega)]; exact h1⟩
theorem ZVE {ad:Addr} {K:Hp→Prop} (hle:h.le w) (frle:fr.le w) (dj:h.dj fr) (hk:ZZu ad h K):
 ∃ h' w',K h'/\(markStringish ad).run P w=.ok () w'/\ZAe h fr h' w w':=by
 obtain ⟨c,e,fz,hb,hk⟩:=hk;have hw:=hle _ _ hb;refine ⟨_,w.freeze ⟨ad.block,c.size,none⟩ 1,hk,?_,?_⟩
 .have hsh:w.shape? ad.block=some (e,c.size):=by simp [World.shape?,hw]
  simp only [markStringish,Sem.run_bind,run_shape,hsh,Result.andThen_ok,run_freeze]
 .have hblk:(w.freeze ⟨ad.block,c.size,none⟩ 1).heap[ad.block]?=some (.cells c e (frz c.size fz)):=by simp only [World.freeze,Nat.one_ne_zero,if_false,Array.getElem?_modify,if_true,hw];simp [frz]
  have hold:∀ k,k≠ad.block->(w.freeze ⟨ad.block,c.size,none⟩ 1).heap[k]?=w.heap[k]?:=by intro k hk;simp only [World.freeze,Nat.one_ne_zero,if_false,Array.getElem?_modify];rw [if_neg (Ne.symm hk)]
  have hfr:fr ad.block=none:=by
   rcases dj ad.block with e'|e'
   .rw [hb] at e'; cases e'
   .exact e'
  refine ⟨?_,?_,Hp.upd_dj dj hfr _,?_,?_⟩
  .intro k o hk;unfold Hp.upd at hk;split at hk
   .rename_i ek; subst ek; cases hk; exact hblk
   .rename_i ek; rw [hold k ek]; exact hle k o hk
  .intro k o hk;rw [hold k (by rintro rfl; rw [hfr] at hk; cases hk)]; exact frle k o hk
  .refine ⟨?_,?_,?_⟩<;>simp [World.freeze]
  .intro b hb' h1 _;have:b≠ad.block:=by rintro rfl; rw [hb] at h1; cases h1
   exact ⟨hold b this,by simp only [Hp.upd,if_neg this]; exact h1⟩
theorem ZAe.set (hle:h.le w) (frle:fr.le w) (dj:h.dj fr) {b:Nat} {o o':Obj} (hb:h b=some o):ZAe h fr (h.upd b o') w {w with heap:=w.heap.setIfInBounds b o'}:=by
 have hw:=hle _ _ hb;have hlt:b<w.heap.size:=by
  rcases Nat.lt_or_ge b w.heap.size with h|h
  .exact h
  .rw [Array.getElem?_eq_none h] at hw; cases hw
 have hold:∀ k,k≠b->(w.heap.setIfInBounds b o')[k]?=w.heap[k]?:=λk hk=>by rw [Array.getElem?_setIfInBounds_ne (Ne.symm hk)]
 have hfr:fr b=none:=by
  rcases dj b with e'|e'
  .rw [hb] at e'; cases e'
  .exact e'
 refine ⟨?_,?_,?_,⟨rfl,rfl,rfl⟩,?_⟩
 .intro k o hk;unfold Hp.upd at hk;split at hk
  .rename_i ek; subst ek; cases hk; show (w.heap.setIfInBounds _ _)[_]?=_; rw [Array.getElem?_setIfInBounds_self,if_pos hlt]
  .rename_i ek; show (w.heap.setIfInBounds _ _)[_]?=_; rw [hold k ek]; exact hle k o hk
 .intro k o hk;show (w.heap.setIfInBounds _ _)[_]?=_;rw [hold k (by rintro rfl; rw [hfr] at hk; cases hk)]; exact frle k o hk
 .exact Hp.upd_dj dj hfr o'
 .intro c _ h1 _;have:c≠b:=by rintro rfl; rw [hb] at h1; cases h1
  exact ⟨hold c this,by simp only [Hp.upd,if_neg this]; exact h1⟩
theorem ZGQ {c:Cdc} {kk:IntKind} {z:c.T} (n:Int):∀ (l:List (Int×c.T×Nat)) (i:Nat),
 ∃ r,Instr.findNow (.int kk) (.int kk n) (l.map λe=>({key:=.int kk e.1,val:=c.enc e.2.1,born:=e.2.2}:MapEntry)) i=some r/\
  (match r with|some (_,v)=>v|none=>c.enc z)=c.enc (ZP5 z n l)/\((∀ e∈l,n≠e.1)->r=none):=by
 intro l;induction l with
 | nil=>intro i; exact ⟨none,rfl,rfl,λ_=>rfl⟩
 | cons e l ih=>
   intro i;have e1:Instr.sameNow (.int kk) (.int kk n) (.int kk e.1)=some (n==e.1):=by simp [Instr.sameNow]
   by_cases hn:n=e.1
   .refine ⟨some (i,c.enc e.2.1),?_,?_,λh=>absurd hn (h e (by simp))⟩
    .simp only [List.map_cons,Instr.findNow];rw [e1,hn]; simp
    .simp [ZP5,hn]
   .obtain ⟨r,h1,h2,h3⟩:=ih (i+1);refine ⟨r,?_,?_,λh=>h3 λx hx=>h x (by simp [hx])⟩
    .simp only [List.map_cons,Instr.findNow];rw [e1];have:(n==e.1)=false:=by simpa using hn
     rw [this]; exact h1
    .rw [h2]; simp [ZP5,hn]
theorem ZYT (hP:ZGa P A) (R:Rel A N bx env a h fr w0 w) {o:Oper} {k:EV→Hp→Prop} (hk:opW A P o (look A env) h k):Zah P o a w h fr k:=by
 obtain ⟨dst,op,type,pos,after,guard⟩:=o;cases op<;>simp only [opW] at hk<;>try exact hk.elim
 case store t x y=>
  split at hk
  ·rename_i c ad v hc hx hy
   cases hf:ZAt P c t with
   | false=>rw [hf] at hk; exact hk.elim
   | true=>
     rw [hf] at hk;simp only [cond_true] at hk;split at hk
     ·rename_i z hz;obtain ⟨hmay,hk⟩:=hk;have hv:=c.law _ _ hz;subst hv;have hf':=hf;simp only [ZAt,Bool.and_eq_true] at hf';obtain ⟨⟨hm,_⟩,hn⟩:=hf';cases hs:ZAu P t with
      | none=>rw [hs] at hn; cases hn
      | some sz=>
        rw [hs] at hn;have hn:=ZFb.1 hn;subst hn;obtain ⟨hsz,hone⟩:=ZAh hm z;have hsc:=ZBh (P:=P) ad (c.enc z).cells.toList 0 w (by simpa [hsz] using ZR0 R.hle hmay) hone;refine .inr (.inl ⟨_,_,hk,?_,ZAe.wrs R.hle R.frle R.dj ad (c.enc z).cells.toList ?_⟩)
        .simp only [execOp,Instr.storeAt,R.eval_v hx,R.eval_v hy,Instr.sureAddr,Sem.run_bind,Sem.run_pure,Result.andThen_ok,storeVar,ZB9 hs];rw [if_neg (by simp [hsz])];simp only [hsc,Result.andThen_ok]
        .by_cases h0:c.n=0
         .left;apply List.eq_nil_of_length_eq_zero;simp [hsz,h0]
         .right; exact ZDP hmay (by omega)
     .exact hk.elim
  .exact hk.elim
 case lookup t x ix ok=>
  split at hk
  ·rename_i kt et hu
   split at hk
   ·rename_i kk c z hk1 hc hz
    split at hk
    .rename_i m k' n hx hix
     split at hk
     .rename_i zz hd hzz
      obtain ⟨r,l,clock,rfl,hb,hk⟩:=hk
      have hd:=of_decide_eq_true hd
      subst hd
      have hw:=R.hle _ _ hb
      obtain ⟨q,hq1,hq2,_⟩:=ZGQ (c:=c) (kk:=kk) (z:=zz) n l 0
      refine .inl ⟨_,_,_,_,hk,.inl rfl,?_,ZAe.refl R.hle R.frle R.dj⟩
      have hzv:z=c.enc zz:=(c.law _ _ hzz).symm
      have hck0:∀ m b w,(Instr.checkKey b (m+1) kt (.int kk n)).run P w=.ok () w:=λm b w=>by simp only [Instr.checkKey,Sem.run_bind,Zd hk1,Result.andThen_ok]; rfl
      have hck:∀ b w,(Instr.checkKey b 10000 kt (.int kk n)).run P w=.ok () w:=hck0 9999
      simp only [execOp,Instr.lookup,R.eval_v hx,R.eval_v hix,Sem.run_bind,Zd hu,Result.andThen_ok,(by simp [getObj,Sem.run,hw,ZMm]:(getObj r).run P w=.ok (ZMm c kk l clock) w)]
      simp only [Sem.run_bind,Sem.run_pure,Result.andThen_ok,hck,Instr.findKey,Zd hk1,hq1]
      cases q with
      | none=>simp only [Sem.run_bind,Sem.run_pure,Result.andThen_ok,ZDO hz,hzv]; rw [<-hq2]; rfl
      | some q=>simp only [Sem.run_bind,Sem.run_pure,Result.andThen_ok]; rw [<-hq2]; rfl
     .exact hk.elim
    .exact hk.elim
   .exact hk.elim
  .exact hk.elim
 case mapUpdate t x ix y=>
  split at hk
  ·rename_i kt et hu
   split at hk
   ·rename_i kk c hk1 hc
    split at hk
    .rename_i m k' n v hx hix hy
     split at hk
     .rename_i vv hd hvv
      obtain ⟨r,l,clock,rfl,hb,hno,hk⟩:=hk
      have hd:=of_decide_eq_true hd
      subst hd
      have hw:=R.hle _ _ hb
      obtain ⟨q,hq1,_,hq3⟩:=ZGQ (c:=c) (kk:=kk) (z:=vv) n l 0
      have hq:=hq3 hno
      subst hq
      refine .inr (.inl ⟨_,_,hk,?_,ZAe.set R.hle R.frle R.dj hb⟩)
      have hvv':v=c.enc vv:=(c.law _ _ hvv).symm
      have hck0:∀ m b w,(Instr.checkKey b (m+1) kt (.int kk n)).run P w=.ok () w:=λm b w=>by simp only [Instr.checkKey,Sem.run_bind,Zd hk1,Result.andThen_ok]; rfl
      have hck:∀ b w,(Instr.checkKey b 10000 kt (.int kk n)).run P w=.ok () w:=hck0 9999
      simp only [execOp,Instr.mapUpdate,R.eval_v hx,R.eval_v hix,R.eval_v hy,Sem.run_bind,Zd hu,Result.andThen_ok,(by simp [getObj,Sem.run,hw,ZMm]:(getObj r).run P w=.ok (ZMm c kk l clock) w)]
      simp only [ZMm,Sem.run_bind,Sem.run_pure,Result.andThen_ok,hck,Instr.findKey,Zd hk1,hq1,hvv']
      have hso:∀ o,(setObj r o).run P w=.ok () {w with heap:=w.heap.setIfInBounds r o}:=λo=>by simp [setObj,Sem.run,hw,ZMm]
      rw [hso]
      simp
     .exact hk.elim
    .exact hk.elim
   .exact hk.elim
  .exact hk.elim
 case select cs block=>
  refine .inr (.inr (.inr ?_))
  split at hk
  ·rename_i sc
   split at hk
   ·rename_i hsend
    split at hk
    ·rename_i c z r hc hz hr
     have hrun:∀ b:Option Nat,a.eval sc.chan=.chan b->(execOp a.eval {dst:=dst,op:=.select #[sc] false,type:=type,pos:=pos,after:=after,guard:=guard}).run P w=.ok (.comm #[{chan:=.chan b,send:=none,zero:=z}] false .select) w:=by intro b hb;simp [execOp,hb,hsend,ZDO hz]
     have hev:=R.eval_v hr
     cases r with
     | none=>exact ⟨_,_,w,_,hk,hrun none hev,ZAe.refl R.hle R.frle R.dj,λf l es h=>Conc.step_lone_select_recv_nil h⟩
     | some r=>
       obtain ⟨cap,l,s,r',hb,hk⟩:=hk;have hw:=R.hle _ _ hb;cases l with
       | nil=>exact ⟨_,_,w,_,hk,hrun (some r) hev,ZAe.refl R.hle R.frle R.dj,λf l es h=>Conc.step_lone_select_default h hw⟩
       | cons v l=>
         obtain ⟨x,rfl,hk⟩:=hk;refine ⟨_,_,_,_,hk,hrun (some r) hev,ZAe.set R.hle R.frle R.dj hb,λf l' es h=>?_⟩;have:=Conc.step_lone_select_recv_buf h hw (by simp);simpa [World.setChan,goInt] using this
    .exact hk.elim
   ·rename_i x hsend
    split at hk
    ·rename_i z r v hz hr hx
     have hrun:∀ b:Option Nat,a.eval sc.chan=.chan b->(execOp a.eval {dst:=dst,op:=.select #[sc] false,type:=type,pos:=pos,after:=after,guard:=guard}).run P w=.ok (.comm #[{chan:=.chan b,send:=some v,zero:=z}] false .select) w:=by intro b hb;simp [execOp,hb,hsend,ZDO hz,R.eval_v hx]
     have hev:=R.eval_v hr
     cases r with
     | none=>exact ⟨_,_,w,_,hk,hrun none hev,ZAe.refl R.hle R.frle R.dj,λf l es h=>Conc.step_lone_select_send_nil h⟩
     | some r=>
       obtain ⟨cap,buf,s,r',hb,h1,h2⟩:=hk;have hw:=R.hle _ _ hb;by_cases hc:cap<=buf.size
       .exact ⟨_,_,w,_,h1 hc,hrun (some r) hev,ZAe.refl R.hle R.frle R.dj,λf l es h=>Conc.step_lone_select_send_full h hw hc⟩
       .refine ⟨_,_,_,_,h2 (by omega),hrun (some r) hev,ZAe.set R.hle R.frle R.dj hb,λf l es h=>Conc.step_lone_select_send_room h hw (by omega)⟩
    .exact hk.elim
  .exact hk.elim
 case convert s d x=>
  split at hk
  .rename_i e st hs hd hx
   split at hk
   .rename_i hu
    obtain ⟨b,cap,h',w',hk,hr,hst⟩:=ZMk (P:=P) R.hle R.frle R.dj hk
    refine .inl ⟨_,_,_,_,hk,.inl rfl,?_,hst⟩
    simp only [execOp,convert,R.eval_v hx,Sem.run_bind,Zd hs,Zd hd,Result.andThen_ok]
    rw [Zd hu]
    simp [hr]
   .exact hk.elim
  ·rename_i e' e ad len cap hs hd hx
   split at hk
   ·rename_i hu
    cases hq:Nat.beq s d with
    | false=>rw [hq] at hk; exact hk.elim
    | true=>
      rw [hq] at hk;have hq:=ZFb.1 hq;subst hq;obtain ⟨h',w',hk,hr,hst⟩:=ZVE (P:=P) R.hle R.frle R.dj hk;refine .inl ⟨_,_,_,_,hk,.inl rfl,?_,hst⟩;simp only [execOp,convert,R.eval_v hx,Sem.run_bind,Zd hs,Result.andThen_ok];have he:e'=e:=by rw [hs] at hd; cases hd; rfl
      subst he;rw [Zd hu];simp [hr]
   .exact hk.elim
  .exact hk.elim
 case call c=>
  obtain ⟨callee,args,ats⟩:=c
  dsimp only at hk
  split at hk
  ·rename_i f l hl
   have hargs:args.map a.eval=l.toArray:=Array.ext' (by simpa using ZAj R hl)
   split at hk
   ·rename_i g first captured hfv
    split at hk
    .rename_i r hr
     obtain ⟨⟨fn,body,hfn,hbody⟩,hk⟩:=hk
     refine .inr (.inr (.inl ⟨g,(first.toList++(l++captured.toList)).toArray,?_,hk.mono ?_⟩))
     .have hng:=hP.noNG g fn hfn
      simp only [execOp,resolve,Deferred.ofValue,R.eval_v hfv,hargs,Sem.run_bind,Sem.run_pure,Result.andThen_ok,invoke,callFunc,run_program,hfn,hng,Bool.false_eq_true,if_false,hbody,Option.isNone_some]
      congr 2
      apply Array.ext'
      simp
     .rintro v h' ⟨y,rfl,hk⟩; exact hk
    ·split at hk
     ·rename_i r hr
      split at hk
      ·rename_i fn hfn
       split at hk
       .rename_i body hbody
        refine .inr (.inr (.inl ⟨g,(first.toList++(l++captured.toList)).toArray,?_,hk.mono ?_⟩))
        .have hng:=hP.noNG g fn hfn
         simp only [execOp,resolve,Deferred.ofValue,R.eval_v hfv,hargs,Sem.run_bind,Sem.run_pure,Result.andThen_ok,invoke,callFunc,run_program,hfn,hng,Bool.false_eq_true,if_false,hbody,Option.isNone_some]
         congr 2
         apply Array.ext'
         simp
        .rintro v h' ⟨y,rfl,hk⟩; exact hk
       .obtain ⟨x,hx,hk⟩:=hk
        refine .inl ⟨_,_,_,_,hk,.inl rfl,?_,ZAe.refl R.hle R.frle R.dj⟩
        have hx:=hx w R.hle
        simp only [execOp,resolve,Deferred.ofValue,R.eval_v hfv,hargs,Sem.run_bind,Sem.run_pure,Result.andThen_ok,invoke]
        rw [<-hx]
        congr 2
        apply Array.ext'
        simp
      .exact hk.elim
     .exact hk.elim
   .exact hk.elim
  ·rename_i p len cap q n cap' hl
   have hargs:args.map a.eval=#[.slice p len cap,.slice q n cap']:=Array.ext' (by simpa using ZAj R hl)
   split at hk
   ·rename_i t u ht hu
    split at hk
    ·rename_i e u' ht' hu'
     split at hk
     ·rename_i cd hcd
      cases hq:(ZAt P cd e&&(Nat.ble 1 (ZA2 P e)&&(Nat.ble (ZA2 P e) 1048576&&ZD4 P e))) with
      | false=>rw [hq] at hk; exact hk.elim
      | true=>
        rw [hq] at hk;simp only [cond_true] at hk;simp only [Bool.and_eq_true] at hq;obtain ⟨p',l',c',h',w',hk,hr,hst⟩:=ZPU (w:=w) (ty:=type) (cap':=cap') ht hu ht' hu' hq.1 rfl (Nat.le_of_ble_eq_true hq.2.1) (Nat.le_of_ble_eq_true hq.2.2.1) hq.2.2.2 R.hle R.frle R.dj hk;exact .inl ⟨_,_,_,_,hk,.inl rfl,by simp only [execOp,resolve,hargs,Sem.run_bind,Sem.run_pure,Result.andThen_ok,invoke,builtin,hr],hst⟩
     .exact hk.elim
    .exact hk.elim
   .exact hk.elim
  ·rename_i p len cap q n cap' hl
   have hargs:args.map a.eval=#[.slice p len cap,.slice q n cap']:=Array.ext' (by simpa using ZAj R hl)
   split at hk
   ·rename_i t ht
    split at hk
    ·rename_i e ht'
     split at hk
     ·rename_i cd hcd
      cases hq:ZAt P cd e with
      | false=>rw [hq] at hk; exact hk.elim
      | true=>
        rw [hq] at hk;simp only [cond_true] at hk;obtain ⟨m,h',w',hk,hr,hst⟩:=ZUN (P:=P) (ty:=type) (cap:=cap) (cap':=cap') ht ht' hq R.hle R.frle R.dj hk;exact .inl ⟨_,_,_,_,hk,.inl rfl,by simp only [execOp,resolve,hargs,Sem.run_bind,Sem.run_pure,Result.andThen_ok,invoke,builtin,hr],hst⟩
     .exact hk.elim
    .exact hk.elim
   .exact hk.elim
  ·rename_i p n cap hl
   have hargs:args.map a.eval=#[.slice p n cap]:=Array.ext' (by simpa using ZAj R hl)
   split at hk
   ·rename_i t ht
    split at hk
    ·rename_i e ht'
     split at hk
     ·rename_i cd z hcd hz
      cases hq:ZAt P cd e with
      | false=>rw [hq] at hk; exact hk.elim
      | true=>
        rw [hq] at hk;simp only [cond_true] at hk;split at hk
        .rename_i x hx;obtain ⟨h',w',hk,hr,hst⟩:=ZRu (P:=P) (ty:=type) (cap:=cap) ht ht' hq hz (cd.law _ _ hx).symm R.hle R.frle R.dj hk;exact .inl ⟨_,_,_,_,hk,.inl rfl,by simp only [execOp,resolve,hargs,Sem.run_bind,Sem.run_pure,Result.andThen_ok,invoke,builtin,hr],hst⟩
        .exact hk.elim
     .exact hk.elim
    .exact hk.elim
   .exact hk.elim
  .exact hk.elim
end
def ZHe (A:Ann) (P:Program) (o:Oper) (env:Env) (h:Hp) (K:Env->Hp->Prop):Prop:=
 match cls A P o with
 | .p=>opP A P o (look A env) λe=>K (put A env (ZA3 A o) e) h
 | .c=>opC A P o (look A env) λe=>K (put A env o.dst e) h
 | .r=>opR A P o (look A env) h λe=>K (put A env o.dst e) h
 | .a=>opA P o (look A env) λob f=>ZM ob h λb h'=>K (put A env o.dst (.val (f b))) h'
 | .w=>opW A P o (look A env) h λe h'=>K (put A env o.dst e) h'
def ZFs (N:Nat) (o:Oper):Bool:=
 match o.dst with
 | some d=>Nat.ble (d+1) N
 | none=>true
def ZYC (env:Env) (s:Nat) (b:Bool):Env:=λk=>bif Nat.beq k s then .val (.bool b) else env k
def ZBt (ops:Array Oper) (o:Oper):Option (Nat×Bool):=
 match o.guard with
 | none=>none
 | some (g,want)=>match ops[g]? with
   | some og=>match og.dst with
     | some s=>some (s,want)
     | none=>none
   | none=>none
def ZAV (A:Ann) (P:Program) (N:Nat) (ops:Array Oper) (o:Oper) (env:Env) (h:Hp) (K:Env→Hp→Prop):Prop:=
 bif ZFs N o then
  match o.guard with
  | none=>ZHe A P o env h K
  | some _=>match ZBt ops o with
    | some (s,want)=>match env s with
      | .val (.bool b)=>ZB b
            (cond want (ZHe A P o (ZYC env s true) h K) (K (put A (ZYC env s true) o.dst (.val undef)) h))
            (cond want (K (put A (ZYC env s false) o.dst (.val undef)) h) (ZHe A P o (ZYC env s false) h K))
      | .val (.tuple ⟨[]⟩)=>K (put A env o.dst (.val undef)) h
      | _=>False
    | none=>False
 else False
def ZJG (A:Ann) (o:Oper) (env:Env) (h:Hp):Prop:=
 match o.op with
 | .load t x=>match o.dst with
   | some d=>match env d with
     | .val v=>match v with
       | .tuple ⟨[]⟩=>True
       | v=>match A.cdc t,look A env x with
         | some c,.v (.pointer (some a))=>match c.dec v with
           | some y=>h.rds a (c.enc y).cells.toList
           | none=>False
         | _,_=>False
     | _=>False
   | none=>False
 | .convert _ _ x=>match o.dst with
   | some d=>match env d with
     | .val v=>match v with
       | .tuple ⟨[]⟩=>True
       | .string s=>match look A env x with
         | .v (.slice a len _)=>ZX8 a len h λs'=>s'=s
         | _=>False
       | _=>False
     | _=>False
   | none=>False
 | _=>False
def ZCQ (A:Ann) (ops:Array Oper) (env:Env) (h:Hp):List Nat->Prop
 | []=>True
 | i::l=>(match ops[i]? with|some o=>ZJG A o env h|none=>False)/\ZCQ A ops env h l
def ZHf (A:Ann) (P:Program) (N:Nat) (ops:Array Oper):List (Nat×List Nat)→Env→Hp→(Env→Hp→Prop)→Prop
 | [],env,h,K=>K env h
 | (i,[])::l,env,h,K=>match ops[i]? with
   | some o=>ZAV A P N ops o env h λe h=>ZHf A P N ops l e h K
   | none=>False
 | (i,ks)::l,env,h,K=>match ops[i]? with
   | some o=>ZAV A P N ops o env h λe h=>ZCQ A ops e h ks/\ZHf A P N ops l e h K
   | none=>False
section
variable {P:Program} {A:Ann} {N:Nat} {bx:Nat->Nat} {env:Env} {a:Act} {h fr:Hp} {w0 w:World} {ops:Array Oper}
def ZTY (P:Program) (ops:Array Oper) (i:Nat) (a:Act) (w:World) (K:Act->World->Prop):Prop:=
 ∀ (b:Frame) (rest:List Nat) (k:List Item) (cs:List Frame),∃ a' w',K a' w'/\
  Steps P (lone (b.at a (.inRegion ops (i::rest)::k)) cs w) (lone (b.at a' (.inRegion ops rest::k)) cs w')
def St (A:Ann) (N:Nat) (fr:Hp) (w0:World) (K:Env->Hp->Prop) (a:Act) (w:World):Prop:=
 ∃ bx env h,Rel A N bx env a h fr w0 w/\K env h
theorem ZTC {i:Nat} {o:Oper} {K:Act->World->Prop} (hi:ops[i]?=some o) (hw:Region.wanted o (yielded ops a.tmps)=false) (hk:K (a.put o.dst undef) w):
 ZTY P ops i a w K:=by
 intro b rest k cs;refine ⟨_,_,hk,.one ?_⟩;have hs:=step_op_skip (P:=P) (b:=b) (a:=a) (k:=k) (cs:=cs) (w:=w) (ops:=ops) (i:=i) (rest:=rest) (by simp [hi,hw]);simpa [hi] using hs
theorem ZDf {i:Nat} {o:Oper} {K:Act->World->Prop} {a':Act} {w':World} (hi:ops[i]?=some o) (hw:Region.wanted o (yielded ops a.tmps)=true)
 (hd:Did P o a w a' w') (hk:K a' w'):ZTY P ops i a w K:=by
 intro b rest k cs;have hg:=stepG_op (P:=P) (b:=b) (k:=k) (cs:=cs) (w:=w) (rest:=rest) hi hw;have hfin:∀ v,(b.at a (.inRegion ops (i::rest)::k)).finish v=b.at (a.put o.dst v) (.inRegion ops rest::k):=by intro v; rw [Frame.finish_at,hi]; rfl
 rcases hd with ⟨v,hr,rfl⟩|⟨hr,rfl⟩
 .refine ⟨_,_,hk,.one (step_lone_go ?_)⟩;rw [hg,<-hfin]; simp [stepG.apply,hr]
 .refine ⟨_,_,hk,.one (step_lone_go ?_)⟩;rw [hg,<-hfin]; simp [stepG.apply,hr]
theorem ZK0 {i:Nat} {o:Oper} {K:Act->World->Prop} {f:FuncId} {args:Array Value} (hi:ops[i]?=some o) (hw:Region.wanted o (yielded ops a.tmps)=true)
 (hr:(execOp a.eval o).run P w=.ok (.enter f args) w) (hc:Calls P f args w λe w'=>∃ v,e=.returned v/\K (a.put o.dst v) w'):ZTY P ops i a w K:=by
 intro b rest k cs;have hg:=stepG_op (P:=P) (b:=b) (k:=k) (cs:=cs) (w:=w) (rest:=rest) hi hw;have hfin:∀ v,(b.at a (.inRegion ops (i::rest)::k)).finish v=b.at (a.put o.dst v) (.inRegion ops rest::k):=by intro v; rw [Frame.finish_at,hi]; rfl
 obtain ⟨e,w'',fr',⟨v,rfl,hk⟩,hsteps,_,hleave⟩:=hc (b.at a (.inRegion ops (i::rest)::k)::cs);have henter:step P (lone (b.at a (.inRegion ops (i::rest)::k)) cs w)=
  .next (lone (Frame.enter P f args .normal) (b.at a (.inRegion ops (i::rest)::k)::cs) w):=
  step_lone_go (by rw [hg]; simp [stepG.apply,hr,Frame.at])
 refine ⟨_,_,hk,.head henter (Steps.trans hsteps (.one ?_))⟩;rw [<-hfin]; exact step_leave_returned hleave
theorem ZQs {i:Nat} {o:Oper} {K:Act→World→Prop} {v:Value} {w':World} {ccs:Array CommCase} (hi:ops[i]?=some o) (hw:Region.wanted o (yielded ops a.tmps)=true)
 (hr:(execOp a.eval o).run P w=.ok (.comm ccs false .select) w)
 (hst:∀ (f:Frame) (l:List Frame) (es:Array Event),stepG P true (Conc.G f l) w=.comm (Conc.G f l) ccs false .select w es->step P (Conc.solo (Conc.G f l) w)=.next (Conc.solo (Conc.G (f.finish v) l) w'))
 (hk:K (a.put o.dst v) w'):ZTY P ops i a w K:=by
 intro b rest k cs;have hg:=stepG_op (P:=P) (b:=b) (k:=k) (cs:=cs) (w:=w) (rest:=rest) hi hw;have hfin:∀ v,(b.at a (.inRegion ops (i::rest)::k)).finish v=b.at (a.put o.dst v) (.inRegion ops rest::k):=by intro v; rw [Frame.finish_at,hi]; rfl
 have hg':∃ es,stepG P true {frame:=b.at a (.inRegion ops (i::rest)::k),callers:=cs,status:=.running,dying:=none} w=
  .comm (Conc.G (b.at a (.inRegion ops (i::rest)::k)) cs) ccs false .select w es:=by
  have e1:stepG.apply P true (b.at a (.inRegion ops (i::rest)::k)) cs none (execOp a.eval o) w=
   GStep.after (seen P (b.at a (.inRegion ops (i::rest)::k)).fn (if (b.at a (.inRegion ops (i::rest)::k)).kind=.early then #[] else Sem.events P (execOp a.eval o) w #[]))
    (GStep.comm {frame:=b.at a (.inRegion ops (i::rest)::k),callers:=cs,status:=.running,dying:=none} ccs false .select w):=by
   simp [stepG.apply,hr]
  exact ⟨_,(hg.trans e1).trans rfl⟩
 obtain ⟨es,hg'⟩:=hg';refine ⟨_,_,hk,.one ?_⟩;rw [<-hfin];exact hst (b.at a (.inRegion ops (i::rest)::k)) cs es hg'
theorem Hp.emp_le (w:World):Hp.emp.le w:=λb o h=>by cases h
theorem Hp.emp_dj (g:Hp):Hp.emp.dj g:=λ_=>.inl rfl
theorem ZR5 (hP:ZGa P A) (R:Rel A N bx env a h fr w0 w) {i:Nat} {o:Oper} (hi:ops[i]?=some o) (hd:∀ k,o.dst=some k→k<N) (hw:Region.wanted o (yielded ops a.tmps)=true)
 {K:Env->Hp->Prop} (hk:ZHe A P o env h K):ZTY P ops i a w (St A N fr w0 K):=by
 unfold ZHe at hk;cases hc:cls A P o with
 | p=>
   rw [hc] at hk;obtain ⟨ev,bx',a',w',hk,R',hdid⟩:=ZYg hP R hd hc hk;exact ZDf hi hw hdid ⟨_,_,_,R',hk⟩
 | c=>
   rw [hc] at hk;obtain ⟨dst,op,type,pos,after,guard⟩:=o;simp only [opC] at hk;cases op<;>simp only at hk<;>try exact hk.elim
   rename_i c;obtain ⟨callee,args,ats⟩:=c;dsimp only at hk;split at hk
   ·rename_i g;split at hk
    .rename_i l r fn hl hr hfn;split at hk
     .rename_i body hbody;obtain ⟨x,hs,hk⟩:=hk;have hargs:args.map a.eval=l.toArray:=Array.ext' (by simpa using ZAj R hl);refine ZK0 (f:=g) (args:=l.toArray) hi hw ?_ ?_
      .have hng:=hP.noNG g fn hfn;simp only [execOp,resolve,Deferred.ofValue,Act.eval,hargs,Sem.run_bind,Sem.run_pure,Result.andThen_ok,invoke,callFunc,run_program,hfn,hng,Bool.false_eq_true,if_false,hbody,Option.isNone_some];congr 2;simp
      .refine (hs w (h.un ((ZE0 bx env w).un fr)) (Hp.emp_le w) (Hp.un_le R.hle (Hp.un_le R.boxes_le R.frle)) (Hp.emp_dj _)).mono ?_;rintro e w' ⟨v,h',rfl,⟨rfl,rfl⟩,_,hfr,_,sm⟩;have dj1:=Hp.dj_un R.boxes_dj R.dj;have R':=R.called (h':=h) (Hp.le_un_left hfr) (Hp.le_un_right dj1 hfr) dj1 sm;exact ⟨_,rfl,_,_,_,R'.put hP.good hd (ev:=.val (r.enc x)) rfl,hk⟩
     .exact hk.elim
    .exact hk.elim
   .exact hk.elim
 | r=>
   rw [hc] at hk;obtain ⟨v,hk,hr⟩:=ZY0 hP R hk;exact ZDf hi hw (.inl ⟨v,hr,rfl⟩) ⟨_,_,_,R.put hP.good hd (ev:=.val v) rfl,hk⟩
 | a=>
   rw [hc] at hk;obtain ⟨ob,f,hk,hr⟩:=ZY1 hP R hk;have hs:=ZAe.alloc R.hle R.frle R.dj ob;have R':=R.world hs.hle hs.frle hs.dj hs.same hs.keep;exact ZDf hi hw (.inl ⟨_,hr,rfl⟩) ⟨_,_,_,R'.put hP.good hd (ev:=.val (f w.heap.size)) rfl,hk w.heap.size (Hp.le_lt R.hle (Nat.le_refl _))⟩
 | w=>
   rw [hc] at hk;rcases ZYT hP R hk with ⟨ev,v,h',w',hk,hev,hr,hs⟩|⟨h',w',hk,hr,hs⟩|⟨f,args,hr,hs⟩|⟨v,h',w',ccs,hk,hr,hs,hst⟩
   .have R':=R.world hs.hle hs.frle hs.dj hs.same hs.keep;have hev':ZYP A bx env o.dst ev v:=by rcases hev with rfl|rfl<;>simp [ZYP]
    exact ZDf hi hw (.inl ⟨_,hr,rfl⟩) ⟨_,_,_,R'.put hP.good hd hev',hk⟩
   .have R':=R.world hs.hle hs.frle hs.dj hs.same hs.keep;exact ZDf hi hw (.inr ⟨hr,rfl⟩) ⟨_,_,_,R'.put hP.good hd (ev:=.unk) trivial,hk⟩
   .refine ZK0 hi hw hr ?_;refine (hs w ((ZE0 bx env w).un fr) R.hle (Hp.un_le R.boxes_le R.frle) (Hp.dj_un R.boxes_dj R.dj)).mono ?_;rintro e w' ⟨v,h',rfl,hk,hle',hfr,hdj,sm⟩;have R':=R.called hle' hfr hdj sm;exact ⟨_,rfl,_,_,_,R'.put hP.good hd (ev:=.val v) rfl,hk⟩
   .have R':=R.world hs.hle hs.frle hs.dj hs.same hs.keep;exact ZQs hi hw hr hst ⟨_,_,_,R'.put hP.good hd (ev:=.val v) rfl,hk⟩
theorem ZL0 {s:Nat} {b:Bool} (he:env s=.val (.bool b)):ZYC env s b=env:=by
 funext k;unfold ZYC;cases hk:Nat.beq k s with
 | true=>rw [ZFb.1 hk,he]; rfl
 | false=>rfl
inductive ZTZ (ops:Array Oper) (o:Oper) (env:Env):Bool->Prop
 | free (h:o.guard=none):ZTZ ops o env true
 | at_ (s:Nat) (want b:Bool) (g:Nat) (hg:o.guard=some (g,want)) (hs:ZBt ops o=some (s,want)) (he:env s=.val (.bool b)):ZTZ ops o env (b==want)
 | not_ (s:Nat) (want:Bool) (g:Nat) (hg:o.guard=some (g,want)) (hs:ZBt ops o=some (s,want)) (he:env s=.val undef):ZTZ ops o env false
theorem ZEZ {o:Oper} {K:Env→Hp→Prop} (hk:ZAV A P N ops o env h K):
 ZFs N o=true/\∃ g,ZTZ ops o env g/\(g=true->ZHe A P o env h K)/\(g=false->K (put A env o.dst (.val undef)) h):=by
 unfold ZAV at hk;cases hdo:ZFs N o with
 | false=>rw [hdo] at hk; exact hk.elim
 | true=>
   rw [hdo] at hk;refine ⟨rfl,?_⟩;simp only [cond_true] at hk;cases hg:o.guard with
   | none=>rw [hg] at hk; exact ⟨true,.free hg,λ_=>hk,λh=>by cases h⟩
   | some gw=>
     obtain ⟨g,want'⟩:=gw;rw [hg] at hk;dsimp only at hk;cases hs:ZBt ops o with
     | none=>rw [hs] at hk; exact hk.elim
     | some sw=>
       obtain ⟨s,want⟩:=sw;have hww:want=want':=by
        unfold ZBt at hs;rw [hg] at hs;dsimp only at hs;split at hs
        .split at hs
         .cases hs; rfl
         .cases hs
        .cases hs
       subst hww;rw [hs] at hk;dsimp only at hk;split at hk
       .rename_i b he;refine ⟨b==want,.at_ s want b g hg hs he,?_,?_⟩
        .intro hb;cases b<;>cases want<;>simp at hb<;>simp only [cond_true,cond_false,ZL0 he] at hk<;>exact hk
        .intro hb;cases b<;>cases want<;>simp at hb<;>simp only [cond_true,cond_false,ZL0 he] at hk<;>exact hk
       .rename_i he;exact ⟨false,.not_ s want g hg hs he,(λe=>by cases e),λ_=>hk⟩
       .exact hk.elim
theorem ZAL {o:Oper} {K:Env→Hp→Prop} {g:Bool} (hd:ZFs N o=true) (hg:ZTZ ops o env g) (h1:g=true→ZHe A P o env h K) (h2:g=false→K (put A env o.dst (.val undef)) h):
 ZAV A P N ops o env h K:=by
 unfold ZAV;rw [hd];simp only [cond_true];cases hg with
 | free hg=>rw [hg]; exact h1 rfl
 | at_ s want b g hg hs he=>
   rw [hg];simp only [hs,he];cases b<;>cases want<;>simp only [cond_true,cond_false,ZL0 he]<;>first|exact h1 rfl|exact h2 rfl
 | not_ s want g hg hs he=>
   rw [hg];simp only [hs,he,undef];exact h2 rfl
theorem ZFP {o:Oper} (h:ZFs N o=true):∀ k,o.dst=some k->k<N:=by intro k hk;unfold ZFs at h;rw [hk] at h;exact Nat.le_of_ble_eq_true h
theorem ZHu (R:Rel A N bx env a h fr w0 w) {o:Oper} {g:Bool} (hg:ZTZ ops o env g):Region.wanted o (yielded ops a.tmps)=g:=by
 cases hg with
 | free hg=>simp [Region.wanted,hg]
 | at_ s want b g hg hs he=>
   have hsl:=R.slot s;rw [he] at hsl;simp only [ZDI] at hsl;unfold ZBt at hs;rw [hg] at hs;dsimp only at hs;split at hs
   .rename_i og hog;split at hs
    .rename_i s' hds;cases hs;simp only [Region.wanted,hg,yielded,hog,Option.bind_some,hds,hsl];cases b<;>cases want<;>rfl
    .cases hs
   .cases hs
 | not_ s want g hg hs he=>
   have hsl:=R.slot s;rw [he] at hsl;simp only [ZDI] at hsl;unfold ZBt at hs;rw [hg] at hs;dsimp only at hs;split at hs
   .rename_i og hog;split at hs
    .rename_i s' hds;cases hs;simp only [Region.wanted,hg,yielded,hog,Option.bind_some,hds,hsl,undef];rfl
    .cases hs
   .cases hs
theorem ZES (hP:ZGa P A) (R:Rel A N bx env a h fr w0 w) {i:Nat} {o:Oper} (hi:ops[i]?=some o) {K:Env->Hp->Prop} (hk:ZAV A P N ops o env h K):
 ZTY P ops i a w (St A N fr w0 K):=by
 obtain ⟨hdo,g,hg,h1,h2⟩:=ZEZ hk;have hw:=ZHu R hg;cases g with
 | true=>exact ZR5 hP R hi (ZFP hdo) hw (h1 rfl)
 | false=>exact ZTC hi hw ⟨_,_,_,R.put hP.good (ZFP hdo) (ev:=.val undef) rfl,h2 rfl⟩
end
def Lin (F:(EV->Prop)->Prop):Prop:=∀ k,F k->∃ e,k e/\∀ k',k' e->F k'
theorem Lin.at_ (e:EV):Lin λk=>k e:=λ_ hk=>⟨e,hk,λ_ h=>h⟩
theorem Lin.no:Lin λ_=>False:=λ_ hk=>hk.elim
theorem Lin.and {C:Prop} {F:(EV->Prop)->Prop} (h:Lin F):Lin λk=>C/\F k:=λk ⟨c,hk⟩=>
 let ⟨e,h1,h2⟩:=h k hk; ⟨e,h1,λk' h'=>⟨c,h2 k' h'⟩⟩
theorem Lin.ex {X:Type} {F:X->(EV->Prop)->Prop} (h:∀ x,Lin (F x)):Lin λk=>∃ x,F x k:=λk ⟨x,hk⟩=>
 let ⟨e,h1,h2⟩:=h x k hk; ⟨e,h1,λk' h'=>⟨x,h2 k' h'⟩⟩
theorem Lin.cond {b:Bool} {F G:(EV->Prop)->Prop} (h:Lin F) (g:Lin G):Lin λk=>cond b (F k) (G k):=by
 cases b
 .exact g
 .exact h
section
variable {A:Ann} {P:Program}
theorem ZFn (d:Option Tmp) (l:LV):Lin (moveL A d l):=by
 cases l with
 | v v=>exact Lin.at_ _
 | r t off cs=>
   cases d with
   | none=>exact Lin.at_ _
   | some d=>exact Lin.cond (Lin.at_ _) (Lin.at_ _)
 | no=>exact Lin.at_ _
theorem ZHr (d:Option Tmp) (t off:Nat):Lin (refTo A d t off):=by
 cases d with
 | none=>exact Lin.no
 | some d=>exact Lin.cond (Lin.at_ _) Lin.no
theorem ZK2 (agg:Bool) (n:Nat) (cs:List Value) (off:Nat):Lin (ZJS agg n cs off):=by
 unfold ZJS;cases agg with
 | true=>exact Lin.cond (Lin.at_ _) Lin.no
 | false=>
   dsimp only;cases cs[off]? with
   | none=>exact Lin.no
   | some v=>exact Lin.at_ _
theorem ZN1 (p:Option Addr) (F:Addr->(EV->Prop)->Prop) (h:∀ a,Lin (F a)):Lin λk=>ZR p λa=>F a k:=by
 cases p with
 | none=>exact Lin.no
 | some a=>exact h a
theorem ZVb (p:Option Addr) (len:Nat) (i:Int) (F:Addr->(EV->Prop)->Prop) (h:∀ a,Lin (F a)):Lin λk=>Zl p len i λa=>F a k:=
 Lin.and (Lin.and (ZN1 p F h))
theorem ZLn (len:Nat) (i:Int) {F:(EV->Prop)->Prop} (h:Lin F):Lin λk=>atP len i (F k):=Lin.and (Lin.and h)
theorem ZBq (len cap:Nat) (lo hi:Option Int) (F:Nat->Nat->(EV->Prop)->Prop) (h:∀ l m,Lin (F l m)):Lin λk=>ZAI len cap lo hi λl m=>F l m k:=by unfold ZAI;cases hi<;>cases lo<;>dsimp only<;>(repeat apply Lin.and)<;>exact h _ _
theorem ZKS (cap:Nat) (lo:Option Int) (j m:Int) (F:Nat->Nat->Nat->(EV->Prop)->Prop) (h:∀ a b c,Lin (F a b c)):Lin λk=>ZIA cap lo j m λa b c=>F a b c k:=by unfold ZIA;cases lo<;>dsimp only<;>(repeat apply Lin.and)<;>exact h _ _ _
theorem ZUC (op:BinOp) (t:TypeId) (x y:Value):Lin (ZYc A P op t x y):=by
 intro k hk;unfold ZYc at hk ⊢;split at hk
 ·cases op<;>dsimp only at hk ⊢;case shl=>exact Lin.and (Lin.at_ _) k hk
  case shr=>exact Lin.and (Lin.at_ _) k hk
  all_goals
   split at hk
   .exact hk.elim
   .first
     | exact ⟨_,hk,λk' h=>h⟩
     | exact Lin.and (Lin.at_ _) k hk
 .split at hk
  .exact ⟨_,hk,λk' h=>h⟩
  .exact ⟨_,hk,λk' h=>h⟩
  .exact hk.elim
 .split at hk
  .exact ⟨_,hk,λk' h=>h⟩
  .exact ⟨_,hk,λk' h=>h⟩
  .exact hk.elim
 .split at hk
  .exact ⟨_,hk,λk' h=>h⟩
  .exact ⟨_,hk,λk' h=>h⟩
  .exact hk.elim
 .split at hk
  .exact ⟨_,hk,λk' h=>h⟩
  .exact ⟨_,hk,λk' h=>h⟩
  .exact hk.elim
 ·cases hq:A.eqs t with
  | false=>rw [hq] at hk; exact hk.elim
  | true=>
    rw [hq] at hk;simp only [cond_true] at hk ⊢;split at hk
    .exact ⟨_,hk,λk' h=>h⟩
    .exact ⟨_,hk,λk' h=>h⟩
    .exact hk.elim
 .exact hk.elim
theorem ZRN (o:Oper) (ρ:Operand→LV):Lin (opP A P o ρ):=by
 obtain ⟨dst,op,type,pos,after,guard⟩:=o;cases op;case move x=>exact ZFn _ _
 case assign x=>exact ZFn _ _
 case pick c x y=>
  intro k hk
  simp only [opP] at hk ⊢
  split at hk
  .exact Lin.cond (ZFn _ _) (ZFn _ _) k hk
  .exact hk.elim
 case alloc e=>
  intro k hk
  simp only [opP] at hk ⊢
  split at hk
  .exact ⟨_,hk,λk' h=>h⟩
  .exact hk.elim
 case box e x=>
  intro k hk
  simp only [opP] at hk ⊢
  split at hk
  .exact ⟨_,hk,λk' h=>h⟩
  .exact hk.elim
 case build t ps=>
  intro k hk
  simp only [opP] at hk ⊢
  split at hk
  .split at hk
   .exact ⟨_,hk,λk' h=>h⟩
   .exact hk.elim
  .split at hk
   .exact ⟨_,hk,λk' h=>h⟩
   .exact hk.elim
  .exact hk.elim
 case nilCheck x=>
  intro k hk
  simp only [opP] at hk ⊢
  split at hk
  .exact ZN1 _ _ (λa=>Lin.at_ _) k hk
  .exact ⟨_,hk,λk' h=>h⟩
  .exact ZHr _ _ _ k hk
  .exact hk.elim
 case binOp op t x y ty=>
  intro k hk
  simp only [opP] at hk ⊢
  split at hk
  .exact ZUC _ _ _ _ k hk
  .exact hk.elim
 case unOp op t x=>
  intro k hk
  simp only [opP] at hk ⊢
  split at hk
  .exact ⟨_,hk,λk' h=>h⟩
  .exact ⟨_,hk,λk' h=>h⟩
  .exact hk.elim
 case convert s d x=>
  intro k hk
  simp only [opP] at hk ⊢
  split at hk
  .exact ⟨_,hk,λk' h=>h⟩
  .exact hk.elim
 case makeInterface t x=>
  intro k hk
  simp only [opP] at hk ⊢
  split at hk
  .exact hk.elim
  .exact ⟨_,hk,λk' h=>h⟩
  .exact hk.elim
 case makeFunc fn l m=>
  intro k hk
  simp only [opP] at hk ⊢
  split at hk
  .exact ⟨_,hk,λk' h=>h⟩
  .exact hk.elim
 case fieldAddr s x f=>
  intro k hk
  simp only [opP] at hk ⊢
  split at hk
  ·split at hk
   .split at hk
    .split at hk
     .exact ⟨_,hk,λk' h=>h⟩
     .exact ZHr _ _ _ k hk
     .exact hk.elim
    .exact hk.elim
   .exact hk.elim
  .exact hk.elim
 case field s x f=>
  intro k hk
  simp only [opP] at hk ⊢
  split at hk
  .split at hk
   .split at hk
    .exact ZK2 _ _ _ _ k hk
    .exact hk.elim
   .exact hk.elim
  .exact hk.elim
 case load t x=>
  intro k hk
  simp only [opP] at hk ⊢
  split at hk
  ·cases hdy:ZRa A x with
   | false=>rw [hdy] at hk; exact ZK2 _ _ _ _ k hk
   | true=>
     rw [hdy] at hk;simp only [cond_true] at hk ⊢;split at hk
     .rename_i c hc;exact Lin.cond (Lin.ex λx=>Lin.and (Lin.at_ _)) Lin.no k hk
     .exact hk.elim
  .exact hk.elim
 case store t x y=>
  intro k hk
  simp only [opP] at hk ⊢
  split at hk
  .refine Lin.cond ?_ Lin.no k hk
   refine Lin.cond ?_ (Lin.cond (Lin.at_ _) Lin.no)
   split
   .exact Lin.and (Lin.ex λx=>Lin.and (Lin.at_ _))
   .exact Lin.no
  .exact hk.elim
 case indexAddr t x ix=>
  intro k hk
  simp only [opP] at hk ⊢
  split at hk
  .split at hk
   .exact ZVb _ _ _ _ (λa=>Lin.at_ _) k hk
   .exact hk.elim
  .split at hk
   .exact ZLn _ _ (Lin.at_ _) k hk
   .exact ZLn _ _ (ZHr _ _ _) k hk
   .exact hk.elim
  .exact hk.elim
 case index t x ix=>
  intro k hk
  simp only [opP] at hk ⊢
  split at hk
  .exact ZLn _ _ (Lin.at_ _) k hk
  .exact hk.elim
 case slice t x lo hi mx=>
  intro k hk
  simp only [opP] at hk ⊢
  split at hk
  .split at hk
   .exact hk.elim
   .split at hk
    .exact ZBq _ _ _ _ _ (λl m=>Lin.at_ _) k hk
    .exact ZBq _ _ _ _ _ (λl m=>Lin.at_ _) k hk
    .exact ZBq _ _ _ _ _ (λl m=>Lin.at_ _) k hk
    .exact ZBq _ _ _ _ _ (λl m=>Lin.at_ _) k hk
    .exact ZKS _ _ _ _ _ (λa b c=>Lin.at_ _) k hk
    .exact ZKS _ _ _ _ _ (λa b c=>Lin.at_ _) k hk
    .exact hk.elim
  .split at hk
   .exact ZBq _ _ _ _ _ (λl m=>Lin.at_ _) k hk
   .exact ZBq _ _ _ _ _ (λl m=>Lin.at_ _) k hk
   .exact ZBq _ _ _ _ _ (λl m=>Lin.at_ _) k hk
   .exact hk.elim
  .split at hk
   .exact hk.elim
   .split at hk
    .exact ZBq _ _ _ _ _ (λl m=>Lin.at_ _) k hk
    .exact ZBq _ _ _ _ _ (λl m=>Lin.at_ _) k hk
    .exact ZBq _ _ _ _ _ (λl m=>Lin.at_ _) k hk
    .exact ZBq _ _ _ _ _ (λl m=>Lin.at_ _) k hk
    .exact hk.elim
  .exact hk.elim
 case extract x i=>
  intro k hk
  simp only [opP] at hk ⊢
  split at hk
  .split at hk
   .exact ⟨_,hk,λk' h=>h⟩
   .exact hk.elim
  .exact hk.elim
 case call c=>
  intro k hk
  simp only [opP] at hk ⊢
  split at hk
  .split at hk
   .exact ⟨_,hk,λk' h=>h⟩
   .exact ⟨_,hk,λk' h=>h⟩
   .exact ⟨_,hk,λk' h=>h⟩
   .exact hk.elim
  .exact ⟨_,hk,λk' h=>h⟩
  .exact ⟨_,hk,λk' h=>h⟩
  .exact hk.elim
 all_goals (intro k hk; exact hk.elim)
theorem ZQ8 (o:Oper) (ρ:Operand→LV):Lin (opC A P o ρ):=by
 obtain ⟨dst,op,type,pos,after,guard⟩:=o;cases op
 case call c=>
  intro k hk
  simp only [opC] at hk ⊢
  split at hk
  .split at hk
   .split at hk
    .exact Lin.ex (λx=>Lin.and (Lin.at_ _)) k hk
    .exact hk.elim
   .exact hk.elim
  .exact hk.elim
 all_goals (intro k hk; exact hk.elim)
def Hp.sub (h g:Hp):Prop:=∀ b o,h b=some o->g b=some o
theorem Hp.sub_refl (h:Hp):h.sub h:=λ_ _ h=>h
theorem Hp.sub_cell {h g:Hp} (s:h.sub g) {a:Addr} {v:Value} (e:h.cell? a=some v):g.cell? a=some v:=by
 unfold Hp.cell? at e ⊢;cases hb:h a.block with
 | none=>rw [hb] at e; cases e
 | some o=>rw [hb] at e; rw [s _ _ hb]; exact e
theorem Hp.sub_rds {h g:Hp} (s:h.sub g) {a:Addr} {cs:List Value} (r:h.rds a cs):g.rds a cs:=λi v hv=>Hp.sub_cell s (r i v hv)
theorem Hp.sub_upd {h:Hp} {b:Nat} (hb:h b=none) (o:Obj):h.sub (h.upd b o):=by intro k o' hk;unfold Hp.upd;rw [if_neg (by rintro rfl; rw [hb] at hk; cases hk)]; exact hk
theorem ZMv (o:Oper) (ρ:Operand→LV) (h:Hp):∀ k,opR A P o ρ h k→∃ e,k e∧∀ k' h',h.sub h'→k' e→opR A P o ρ h' k':=by
 obtain ⟨dst,op,type,pos,after,guard⟩:=o;intro k hk;cases op
 case load t x=>
  simp only [opR] at hk ⊢
  split at hk
  ·rename_i c a hc hx
   cases hq:ZAt P c t with
   | false=>rw [hq] at hk; exact hk.elim
   | true=>
     rw [hq] at hk;obtain ⟨y,hy,hk⟩:=hk;exact ⟨_,hk,λk' h' hs hk'=>⟨y,Hp.sub_rds hs hy,hk'⟩⟩
  .exact hk.elim
 case convert s d x=>
  simp only [opR] at hk ⊢
  split at hk
  ·rename_i e a len cap h1 h2 h3
   split at hk
   ·cases a with
    | none=>exact ⟨_,hk,λk' h' hs hk'=>hk'⟩
    | some a=>
      obtain ⟨xs,hl,hr,hk⟩:=hk;exact ⟨_,hk,λk' h' hs hk'=>⟨xs,hl,Hp.sub_rds hs hr,hk'⟩⟩
   .exact hk.elim
  .exact hk.elim
 case call c=>
  simp only [opR] at hk ⊢
  split at hk
  ·rename_i t r h1 h2 h3
   cases hq:ZSd P t with
   | false=>rw [hq] at hk; exact hk.elim
   | true=>
     rw [hq] at hk;cases r with
     | none=>exact ⟨_,hk,λk' h' hs hk'=>hk'⟩
     | some r=>
       obtain ⟨cap,buf,cl,s,r',hh,hk⟩:=hk;exact ⟨_,hk,λk' h' hs hk'=>⟨cap,buf,cl,s,r',hs _ _ hh,hk'⟩⟩
  .exact hk.elim
 all_goals exact hk.elim
theorem ZXW (o:Oper) (ρ:Operand→LV):∀ k,opA P o ρ k→∃ ob f,k ob f∧∀ k':Obj→(Nat→Value)→Prop,k' ob f→opA P o ρ k':=by
 obtain ⟨dst,op,type,pos,after,guard⟩:=o;intro k hk;cases op;case alloc e=>
  simp only [opA] at hk ⊢
  split at hk
  .exact ⟨_,_,hk,λk' h=>h⟩
  .exact hk.elim
 case box e x=>
  simp only [opA] at hk ⊢
  split at hk
  .exact ⟨_,_,hk,λk' h=>h⟩
  .exact hk.elim
 case buildSlice t n ps=>
  simp only [opA] at hk ⊢
  split at hk
  ·rename_i e l hu hl
   split at hk
   ·rename_i m z hm hz
    cases hq:Nat.ble (n*m) 16777216 with
    | false=>rw [hq] at hk; exact hk.elim
    | true=>
      rw [hq] at hk;simp only [cond_true] at hk ⊢;split at hk
      .rename_i cs hf;exact ⟨_,_,hk,λk' h=>h⟩
      .exact hk.elim
   .exact hk.elim
  .exact hk.elim
 case makeSlice t l c=>
  simp only [opA] at hk ⊢
  split at hk
  ·rename_i e kn n km m hu hl hc
   split at hk
   ·cases hq:ZD4 P e with
    | false=>rw [hq] at hk; exact hk.elim
    | true=>
      rw [hq] at hk;simp only [cond_true] at hk ⊢;obtain ⟨h0,h1,h2,h3,hk⟩:=hk;exact ⟨_,_,hk,λk' h=>⟨h0,h1,h2,h3,h⟩⟩
   .exact hk.elim
  .exact hk.elim
 case makeChan t n=>
  simp only [opA] at hk ⊢
  split at hk
  .split at hk
   .obtain ⟨h0,h1,h2,hk⟩:=hk
    exact ⟨_,_,hk,λk' h=>⟨h0,h1,h2,h⟩⟩
   .exact hk.elim
  .exact hk.elim
 case makeMap t r=>
  simp only [opA] at hk ⊢
  split at hk
  .exact ⟨_,_,hk,λk' h=>h⟩
  .exact hk.elim
 all_goals exact hk.elim
theorem ZOE (o:Oper) (ρ:Operand→LV) (h:Hp) (k k':EV→Hp→Prop) (hkk:∀ e h',k e h'→k' e h'):opW A P o ρ h k→opW A P o ρ h k':=by
 obtain ⟨dst,op,type,pos,after,guard⟩:=o;intro hk;cases op
 case store t x y=>
  simp only [opW] at hk ⊢
  split at hk
  ·rename_i c a v hc hx hy
   cases hq:ZAt P c t with
   | false=>rw [hq] at hk; exact hk.elim
   | true=>
     rw [hq] at hk;simp only [cond_true] at hk ⊢;split at hk
     .exact ⟨hk.1,hkk _ _ hk.2⟩
     .exact hk.elim
  .exact hk.elim
 case convert s d x=>
  simp only [opW] at hk ⊢
  split at hk
  .split at hk
   .exact λcap pad b h1 h2 h3=>hkk _ _ (hk cap pad b h1 h2 h3)
   .exact hk.elim
  ·split at hk
   ·cases hq:Nat.beq s d with
    | false=>rw [hq] at hk; exact hk.elim
    | true=>
      rw [hq] at hk;obtain ⟨c,e,fz,hb,hk⟩:=hk;exact ⟨c,e,fz,hb,hkk _ _ hk⟩
   .exact hk.elim
  .exact hk.elim
 case call c=>
  simp only [opW] at hk ⊢
  split at hk
  ·split at hk
   ·split at hk
    .exact ⟨hk.1,hk.2.mono λv h' ⟨x,e,hx⟩=>⟨x,e,hkk _ _ hx⟩⟩
    ·split at hk
     .split at hk
      .split at hk
       .exact hk.mono λv h' ⟨x,e,hx⟩=>⟨x,e,hkk _ _ hx⟩
       .obtain ⟨x,hx,hk⟩:=hk; exact ⟨x,hx,hkk _ _ hk⟩
      .exact hk.elim
     .exact hk.elim
   .exact hk.elim
  ·rename_i p len cap q n cap' hcal hl
   split at hk
   ·rename_i t u ht hu
    split at hk
    ·rename_i e u' ht' hu'
     split at hk
     ·rename_i cd hcd
      cases hq:(ZAt P cd e&&(Nat.ble 1 (ZA2 P e)&&(Nat.ble (ZA2 P e) 1048576&&ZD4 P e))) with
      | false=>rw [hq] at hk; exact hk.elim
      | true=>
        rw [hq] at hk;simp only [cond_true] at hk ⊢;have em:∀ (a:Option Addr) (n:Nat) (K K':List cd.T->Prop),(∀ xs,K xs->K' xs)->ZCM cd a n h K->ZCM cd a n h K':=by
          intro a n K K' hKK he;cases a with
          | none=>exact ⟨he.1,hKK _ he.2⟩
          | some a=>obtain ⟨xs,h1,h2,h3⟩:=he; exact ⟨xs,h1,h2,hKK _ h3⟩
        refine em _ _ _ _ ?_ hk;rintro ys ⟨h1,h2⟩;refine ⟨λhc=>?_,λhc=>?_⟩
        .have:=h1 hc;cases p with
         | none=>exact hkk _ _ this
         | some ad=>exact ⟨this.1,hkk _ _ this.2⟩
        .obtain ⟨h3,h4⟩:=h2 hc;refine ⟨h3,em _ _ _ _ ?_ h4⟩;intro xs h5 nc pad h6 h7 b hb;exact hkk _ _ (h5 nc pad h6 h7 b hb)
     .exact hk.elim
    .exact hk.elim
   .exact hk.elim
  ·rename_i p len cap q n cap' hcal hl
   split at hk
   ·split at hk
    ·split at hk
     ·rename_i cd hcd
      cases hq:ZAt P cd _ with
      | false=>rw [hq] at hk; exact hk.elim
      | true=>
        rw [hq] at hk;simp only [cond_true] at hk ⊢;unfold ZBG at hk ⊢;unfold ZCM at hk ⊢;cases q with
        | none=>
          refine ⟨hk.1,?_⟩;have:=hk.2;cases p with
          | none=>exact hkk _ _ this
          | some ad=>exact ⟨this.1,hkk _ _ this.2⟩
        | some q=>
          obtain ⟨xs,h1,h2,this⟩:=hk;refine ⟨xs,h1,h2,?_⟩;cases p with
          | none=>exact hkk _ _ this
          | some ad=>exact ⟨this.1,hkk _ _ this.2⟩
     .exact hk.elim
    .exact hk.elim
   .exact hk.elim
  ·rename_i p n cap hcal hl
   split at hk
   ·split at hk
    ·split at hk
     ·rename_i cd z hcd hz
      cases hq:ZAt P cd _ with
      | false=>rw [hq] at hk; exact hk.elim
      | true=>
        rw [hq] at hk;simp only [cond_true] at hk ⊢;split at hk
        .cases p with
         | none=>exact hkk _ _ hk
         | some ad=>exact ⟨hk.1,hkk _ _ hk.2⟩
        .exact hk.elim
     .exact hk.elim
    .exact hk.elim
   .exact hk.elim
  .exact hk.elim
 case lookup t x ix ok=>
  simp only [opW] at hk ⊢
  split at hk
  ·split at hk
   ·split at hk
    .split at hk
     .obtain ⟨r,l,clock,h1,h2,h3⟩:=hk
      exact ⟨r,l,clock,h1,h2,hkk _ _ h3⟩
     .exact hk.elim
    .exact hk.elim
   .exact hk.elim
  .exact hk.elim
 case mapUpdate t x ix y=>
  simp only [opW] at hk ⊢
  split at hk
  ·split at hk
   ·split at hk
    .split at hk
     .obtain ⟨r,l,clock,h1,h2,h3,h4⟩:=hk
      exact ⟨r,l,clock,h1,h2,h3,hkk _ _ h4⟩
     .exact hk.elim
    .exact hk.elim
   .exact hk.elim
  .exact hk.elim
 case select cs block=>
  simp only [opW] at hk ⊢
  split at hk
  ·split at hk
   ·split at hk
    ·rename_i c z r hc hz hr
     cases r with
     | none=>exact hkk _ _ hk
     | some r=>
       obtain ⟨cap,l,s,r',hb,hk⟩:=hk;refine ⟨cap,l,s,r',hb,?_⟩;cases l with
       | nil=>exact hkk _ _ hk
       | cons v l=>obtain ⟨x,hx,hk⟩:=hk; exact ⟨x,hx,hkk _ _ hk⟩
    .exact hk.elim
   ·split at hk
    ·rename_i z r v hz hr hx
     cases r with
     | none=>exact hkk _ _ hk
     | some r=>
       obtain ⟨cap,l,s,r',hb,h1,h2⟩:=hk;exact ⟨cap,l,s,r',hb,λh=>hkk _ _ (h1 h),λh=>hkk _ _ (h2 h)⟩
    .exact hk.elim
  .exact hk.elim
 all_goals exact hk.elim
end
section
variable {A:Ann} {P:Program}
theorem ZCf {ρ ρ':Operand→LV}:∀ {l:List Operand},(∀ x∈l,ρ x=ρ' x)→ZH6 ρ l=ZH6 ρ' l:=by
 intro l;induction l with
 | nil=>intro _; rfl
 | cons x l ih=>
   intro h;unfold ZH6;rw [h x (by simp),ih λy hy=>h y (List.mem_cons_of_mem _ hy)]
theorem ZHT {ρ ρ':Operand→LV}:∀ {l:List (Nat×Operand)},(∀ x∈l,ρ x.2=ρ' x.2)→ZC9 ρ l=ZC9 ρ' l:=by
 intro l;induction l with
 | nil=>intro _; rfl
 | cons x l ih=>
   intro h;obtain ⟨i,x⟩:=x;unfold ZC9;rw [h (i,x) (by simp),ih λy hy=>h y (List.mem_cons_of_mem _ hy)]
theorem ZHX {ρ ρ':Operand->LV} {o:Option Operand} (h:∀ x∈o,ρ x=ρ' x):o.map ρ=o.map ρ':=by
 cases o with
 | none=>rfl
 | some x=>simp [h x rfl]
theorem ZLY {o:Oper} {ρ ρ':Operand->LV} (h:∀ x∈o.op.operands,ρ x=ρ' x):opP A P o ρ=opP A P o ρ':=by
 obtain ⟨dst,op,type,pos,after,guard⟩:=o;funext k;cases op<;>simp only [Op.operands] at h<;>simp only [opP];case move x=>rw [h x (by simp)]
 case assign x=>rw [h x (by simp)]
 case pick c a b=>rw [h c (by simp),h a (by simp),h b (by simp)]
 case box e x=>rw [h x (by simp)]
 case build t ps=>rw [ZHT λx hx=>h x.2 (by simp; exact ⟨x.1,by simpa using hx⟩)]
 case nilCheck x=>rw [h x (by simp)]
 case binOp op t x y ty=>rw [h x (by simp),h y (by simp)]
 case unOp op t x=>rw [h x (by simp)]
 case convert s d x=>rw [h x (by simp)]
 case makeInterface t x=>rw [h x (by simp)]
 case makeFunc fn l m=>
  rw [ZCf (l:=l.toList) λx hx=>h x (by simp at hx ⊢; exact .inl hx),ZCf (l:=m.toList) λx hx=>h x (by simp at hx ⊢; exact .inr hx)]
 case fieldAddr s x f=>rw [h x (by simp)]
 case field s x f=>rw [h x (by simp)]
 case load t x=>rw [h x (by simp)]
 case store t x y=>rw [h x (by simp),h y (by simp)]
 case indexAddr t x i=>rw [h x (by simp),h i (by simp)]
 case index t x i=>rw [h x (by simp),h i (by simp)]
 case slice t x lo hi mx=>
  rw [h x (by simp),ZHX (o:=lo) λy hy=>h y (by simp at hy ⊢; simp [hy]),ZHX (o:=hi) λy hy=>h y (by simp at hy ⊢; simp [hy]),ZHX (o:=mx) λy hy=>h y (by simp at hy ⊢; simp [hy])]
 case extract x i=>rw [h x (by simp)]
 case call c=>rw [ZCf (l:=c.args.toList) λx hx=>h x (by simp [Call.operands] at hx ⊢; exact .inr hx)]
theorem ZKd {o:Oper} {ρ ρ':Operand->LV} (h:∀ x∈o.op.operands,ρ x=ρ' x):opC A P o ρ=opC A P o ρ':=by obtain ⟨dst,op,type,pos,after,guard⟩:=o;funext k;cases op<;>simp only [Op.operands] at h<;>simp only [opC];case call c=>rw [ZCf (l:=c.args.toList) λx hx=>h x (by simp [Call.operands] at hx ⊢; exact .inr hx)]
theorem ZKW {o:Oper} {ρ ρ':Operand->LV} (h:∀ x∈o.op.operands,ρ x=ρ' x):opR A P o ρ=opR A P o ρ':=by
 obtain ⟨dst,op,type,pos,after,guard⟩:=o;funext hp k;cases op<;>simp only [Op.operands] at h<;>simp only [opR];case load t x=>rw [h x (by simp)]
 case convert s d x=>rw [h x (by simp)]
 case call c=>rw [ZCf (l:=c.args.toList) λx hx=>h x (by simp [Call.operands] at hx ⊢; exact .inr hx)]
theorem ZK6 {o:Oper} {ρ ρ':Operand->LV} (h:∀ x∈o.op.operands,ρ x=ρ' x):opA P o ρ=opA P o ρ':=by
 obtain ⟨dst,op,type,pos,after,guard⟩:=o;funext k;cases op<;>simp only [Op.operands] at h<;>simp only [opA];case box e x=>rw [h x (by simp)]
 case buildSlice t n ps=>rw [ZHT λx hx=>h x.2 (by simp; exact ⟨x.1,by simpa using hx⟩)]
 case makeSlice t x y=>rw [h x (by simp),h y (by simp)]
 case makeChan t x=>rw [h x (by simp)]
theorem ZKg {o:Oper} {ρ ρ':Operand→LV} (h:∀ x∈o.op.operands,ρ x=ρ' x):opW A P o ρ=opW A P o ρ':=by
 obtain ⟨dst,op,type,pos,after,guard⟩:=o;funext hp k;cases op<;>simp only [Op.operands] at h<;>simp only [opW];case store t x y=>rw [h x (by simp),h y (by simp)]
 case convert s d x=>rw [h x (by simp)]
 case lookup t x y ok=>rw [h x (by simp),h y (by simp)]
 case mapUpdate t x y z=>rw [h x (by simp),h y (by simp),h z (by simp)]
 case select cs block=>
  split
  .rename_i sc
   have h1:=h sc.chan (by simp)
   rw [h1]
   split
   .rfl
   .rename_i x hx
    have h2:=h x (by simp [hx])
    rw [h2]
  .rfl
 case call c=>
  rw [ZCf (l:=c.args.toList) λx hx=>h x (by simp [Call.operands] at hx ⊢; exact .inr hx)]
  obtain ⟨callee,args,ats⟩:=c
  cases callee with
  | value f=>
    have hf:=h f (by simp [Call.operands]);cases ZH6 ρ' args.toList with
    | none=>rfl
    | some l=>dsimp only; rw [hf]
  | invoke r m=>rfl
  | builtin b=>
    rcases ZH6 ρ' args.toList with _|l
    .cases b<;>rfl
    .rcases l with _|⟨v,_|⟨u,_|⟨z,l⟩⟩⟩<;>cases b<;>first|rfl|(cases v<;>first|rfl|(cases u<;>rfl))
def ZM4 (A:Ann) (x:Operand):List Nat:=
 match x with
 | .tmp t=>t::(A.refOf t).toList
 | _=>[]
def ZDV (A:Ann) (ops:Array Oper) (o:Oper):List Nat:=
 o.op.operands.toList.flatMap (ZM4 A)++(match ZBt ops o with
  | some (s,_)=>s::(A.refOf s).toList
  | none=>[])
def ZAs (A:Ann) (o:Oper):List Nat:=o.dst.toList++(ZA3 A o).toList
def ZBM (A:Ann) (d e:Nat):Bool:=!Nat.beq d e&&(!ZAT (A.refOf d) e&&!ZAT (A.refOf e) d)
theorem ZUZ (hA:A.good) {env:Env} {d:Nat} {ev:EV} {x:Operand} (hx:d∉ZM4 A x):look A (put A env (some d) ev) x=look A env x:=by
 cases x with
 | tmp t=>
   simp only [ZM4,List.mem_cons,Option.mem_toList,not_or] at hx;obtain ⟨h1,h2⟩:=hx;have e1:put A env (some d) ev t=env t:=by
    rcases ZBl (A:=A) (env:=env) ev (Ne.symm h1) with h|⟨_,_,h3⟩
    .exact h
    .exact absurd h3 h2
   simp only [look,e1];cases he:env t with
   | val v=>rfl
   | box cs=>rfl
   | unk=>rfl
   | ref off=>
     simp only;cases hr:A.refOf t with
     | none=>rfl
     | some t'=>
       have hd:t'≠d:=by rintro rfl; exact h2 hr
       cases hp:A.isProm t' with
       | false=>simp only [hp,cond_false]
       | true=>
         simp only [hp,cond_true];rcases ZBl (A:=A) (env:=env) ev hd with h|⟨_,_,h3⟩
         .rw [h]
         .rw [hA _ _ h3] at hp; cases hp
 | const v=>rfl
 | func f=>rfl
 | global g=>rfl
end
section
variable {A:Ann} {P:Program} {N:Nat} {ops:Array Oper} {env env2:Env} {h:Hp} {K K':Env->Hp->Prop}
def ZAy (A:Ann) (ops:Array Oper) (o:Oper) (env env2:Env):Prop:=
 (∀ x∈o.op.operands,look A env x=look A env2 x)/\∀ s want,ZBt ops o=some (s,want)->env s=env2 s
def ZDo (cl:Cls) (h h':Hp):Prop:=
 match cl with
 | .w=>True
 | .a=>h'=h\/∃ b o,h b=none/\h'=h.upd b o
 | _=>h'=h
theorem ZLV (cl:Cls) (h:Hp):ZDo cl h h:=by cases cl<;>first|rfl|trivial|exact .inl rfl
theorem ZTZ.agree {o:Oper} {g:Bool} (hg:ZTZ ops o env g) (ag:ZAy A ops o env env2):ZTZ ops o env2 g:=by
 cases hg with
 | free hg=>exact .free hg
 | at_ s want b g hg hs he=>exact .at_ s want b g hg hs (by rw [<-ag.2 s want hs]; exact he)
 | not_ s want g hg hs he=>exact .not_ s want g hg hs (by rw [<-ag.2 s want hs]; exact he)
theorem ZPE {o:Oper} (hk:ZHe A P o env h K) (ag:ZAy A ops o env env2)
 (hKK:∀ d,d=o.dst\/d=ZA3 A o->∀ e h',ZDo (cls A P o) h h'->K (put A env d e) h'->K' (put A env2 d e) h'):ZHe A P o env2 h K':=by
 unfold ZHe at hk ⊢;cases hc:cls A P o with
 | p=>
   rw [hc] at hk hKK;dsimp only at hk ⊢;rw [ZLY ag.1] at hk;obtain ⟨e,h1,h2⟩:=ZRN o _ _ hk;exact h2 _ (hKK _ (.inr rfl) e h rfl h1)
 | c=>
   rw [hc] at hk hKK;dsimp only at hk ⊢;rw [ZKd ag.1] at hk;obtain ⟨e,h1,h2⟩:=ZQ8 o _ _ hk;exact h2 _ (hKK _ (.inl rfl) e h rfl h1)
 | r=>
   rw [hc] at hk hKK;dsimp only at hk ⊢;rw [ZKW ag.1] at hk;obtain ⟨e,h1,h2⟩:=ZMv o _ _ _ hk;exact h2 _ _ (Hp.sub_refl h) (hKK _ (.inl rfl) e h rfl h1)
 | a=>
   rw [hc] at hk hKK;dsimp only at hk ⊢;rw [ZK6 ag.1] at hk;obtain ⟨ob,f,h1,h2⟩:=ZXW o _ _ hk;exact h2 _ λb hb=>hKK _ (.inl rfl) _ _ (.inr ⟨b,ob,hb,rfl⟩) (h1 b hb)
 | w=>
   rw [hc] at hk hKK;dsimp only at hk ⊢;rw [ZKg ag.1] at hk;exact ZOE o _ h _ _ (λe h' hk=>hKK _ (.inl rfl) e h' trivial hk) hk
theorem ZCp {o:Oper} (hk:ZAV A P N ops o env h K) (ag:ZAy A ops o env env2)
 (hKK:∀ d,d=o.dst\/d=ZA3 A o->∀ e h',ZDo (cls A P o) h h'->K (put A env d e) h'->K' (put A env2 d e) h'):ZAV A P N ops o env2 h K':=by
 obtain ⟨hd,g,hg,h1,h2⟩:=ZEZ hk;exact ZAL hd (hg.agree ag) (λe=>ZPE (h1 e) ag hKK) (λe=>hKK _ (.inl rfl) (.val undef) h (ZLV _ h) (h2 e))
theorem ZAy.refl (o:Oper) (env:Env):ZAy A ops o env env:=⟨λ_ _=>rfl,λ_ _ _=>rfl⟩
theorem Z6 {o:Oper} (hk:ZAV A P N ops o env h K) (hKK:∀ e h',K e h'->K' e h'):ZAV A P N ops o env h K':=
 ZCp hk (ZAy.refl o env) λ_ _ _ _ _ hk=>hKK _ _ hk
def ZVk (cl:Cls):Bool:=
 match cl with
 | .p|.c|.r=>true
 | _=>false
theorem ZKf {o:Oper} (hl:ZVk (cls A P o)=true) (hk:ZAV A P N ops o env h K):
 ∃ d e,(d=o.dst\/d=ZA3 A o)/\K (put A env d e) h/\
  ∀ env2 h2 K',ZAy A ops o env env2->(cls A P o=.r->h.sub h2)->K' (put A env2 d e) h2->ZAV A P N ops o env2 h2 K':=by
 obtain ⟨hd,g,hg,h1,h2⟩:=ZEZ hk;cases g with
 | false=>exact ⟨o.dst,.val undef,.inl rfl,h2 rfl,λenv2 h2 K' ag _ hk'=>ZAL hd (hg.agree ag) (λe=>by cases e) (λ_=>hk')⟩
 | true=>
   have hr:=h1 rfl;unfold ZHe at hr;cases hc:cls A P o with
   | p=>
     rw [hc] at hr;obtain ⟨e,k1,k2⟩:=ZRN o _ _ hr;refine ⟨ZA3 A o,e,.inr rfl,k1,λenv2 h2 K' ag _ hk'=>ZAL hd (hg.agree ag) (λ_=>?_) (λe=>by cases e)⟩;unfold ZHe;rw [hc];dsimp only;rw [<-ZLY ag.1];exact k2 _ hk'
   | c=>
     rw [hc] at hr;obtain ⟨e,k1,k2⟩:=ZQ8 o _ _ hr;refine ⟨o.dst,e,.inl rfl,k1,λenv2 h2 K' ag _ hk'=>ZAL hd (hg.agree ag) (λ_=>?_) (λe=>by cases e)⟩;unfold ZHe;rw [hc];dsimp only;rw [<-ZKd ag.1];exact k2 _ hk'
   | r=>
     rw [hc] at hr;obtain ⟨e,k1,k2⟩:=ZMv o _ _ _ hr;refine ⟨o.dst,e,.inl rfl,k1,λenv2 h2 K' ag hs hk'=>ZAL hd (hg.agree ag) (λ_=>?_) (λe=>by cases e)⟩;unfold ZHe;rw [hc];dsimp only;rw [<-ZKW ag.1];exact k2 _ _ (hs rfl) hk'
   | a=>rw [hc] at hl; cases hl
   | w=>rw [hc] at hl; cases hl
def ZFg (A:Ann) (ops:Array Oper) (x y:Oper):Bool:=
 (ZAs A x).all (λd=>!(ZDV A ops y).contains d&&(ZAs A y).all λe=>ZBM A d e)&&
 (ZAs A y).all λe=>!(ZDV A ops x).contains e
theorem ZCd {o:Oper} {d:Nat} (hd:some d=o.dst\/some d=ZA3 A o):d∈ZAs A o:=by unfold ZAs;rcases hd with h|h<;>rw [<-h]<;>simp
theorem ZDK (hA:A.good) {o:Oper} {d:Nat} (hd:d∉ZDV A ops o) (ev:EV):ZAy A ops o (put A env (some d) ev) env:=by
 unfold ZDV at hd;simp only [List.mem_append,List.mem_flatMap,not_or,not_exists,not_and] at hd;refine ⟨λx hx=>ZUZ hA (hd.1 x (by simpa using hx)),λs want hs=>?_⟩;have h2:=hd.2;rw [hs] at h2;simp only [List.mem_cons,Option.mem_toList,not_or] at h2;rcases ZBl (A:=A) (env:=env) ev (Ne.symm h2.1) with h|⟨_,_,h3⟩
 .exact h
 .exact absurd h3 h2.2
theorem ZAy.symm {o:Oper} (ag:ZAy A ops o env env2):ZAy A ops o env2 env:=⟨λx hx=>(ag.1 x hx).symm,λs w hs=>(ag.2 s w hs).symm⟩
theorem ZDA {d e:Nat}:ZBM A d e=true↔d≠e∧A.refOf d≠some e∧A.refOf e≠some d:=by
 unfold ZBM;simp only [Bool.and_eq_true,Bool.not_eq_true'];rw [ZTT];constructor
 .rintro ⟨h1,h2,h3⟩;exact ⟨h1,λh=>(by rw [ZBD.2 h] at h2; cases h2),λh=>(by rw [ZBD.2 h] at h3; cases h3)⟩
 .rintro ⟨h1,h2,h3⟩;refine ⟨h1,?_,?_⟩
  .cases hh:ZAT (A.refOf d) e with
   | false=>rfl
   | true=>exact absurd (ZBD.1 hh) h2
  .cases hh:ZAT (A.refOf e) d with
   | false=>rfl
   | true=>exact absurd (ZBD.1 hh) h3
theorem ZUo {d e:Nat} (h:ZBM A d e=true) (u v:EV):put A (put A env (some d) u) (some e) v=put A (put A env (some e) v) (some d) u:=by
 obtain ⟨h1,h2,h3⟩:=ZDA.1 h;funext s;by_cases hd:s=d
 .subst hd;rw [ZCI];rcases ZBl (A:=A) (env:=put A env (some s) u) v h1 with h|⟨_,_,h4⟩
  .rw [h,ZCI]
  .exact absurd h4 h2
 .by_cases he:s=e
  .subst he;rw [ZCI];rcases ZBl (A:=A) (env:=put A env (some s) v) u hd with h|⟨_,_,h4⟩
   .rw [h,ZCI]
   .exact absurd h4 h3
  .simp only [put,ZTT.2 hd,ZTT.2 he,cond_false];cases (A.isProm e&&ZAT (A.refOf s) e)<;>cases (A.isProm d&&ZAT (A.refOf s) d)<;>rfl
theorem ZGB {x y:Oper}:ZFg A ops x y=true↔(∀ d∈ZAs A x,d∉ZDV A ops y/\∀ e∈ZAs A y,ZBM A d e=true)/\∀ e∈ZAs A y,e∉ZDV A ops x:=by unfold ZFg;simp only [Bool.and_eq_true,List.all_eq_true,Bool.not_eq_true',List.contains_eq_mem,decide_eq_false_iff_not]
theorem ZFd {x y:Oper} (hap:ZFg A ops x y=true) {d e:Option Tmp} (hd:d=x.dst∨d=ZA3 A x) (he:e=y.dst∨e=ZA3 A y) (u v:EV):
 put A (put A env d u) e v=put A (put A env e v) d u:=by
 cases d with
 | none=>rfl
 | some d=>
   cases e with
   | none=>rfl
   | some e=>exact ZUo ((ZGB.1 hap).1 d (ZCd hd) |>.2 e (ZCd he)) u v
theorem ZDb (hA:A.good) {x y:Oper} (hap:ZFg A ops x y=true) {d:Option Tmp} (hd:d=x.dst\/d=ZA3 A x) (u:EV):ZAy A ops y (put A env d u) env:=by
 cases d with
 | none=>exact ZAy.refl y env
 | some d=>exact ZDK hA ((ZGB.1 hap).1 d (ZCd hd)).1 u
theorem ZDn (hA:A.good) {x y:Oper} (hap:ZFg A ops x y=true) {e:Option Tmp} (he:e=y.dst\/e=ZA3 A y) (u:EV):ZAy A ops x (put A env e u) env:=by
 cases e with
 | none=>exact ZAy.refl x env
 | some e=>exact ZDK hA ((ZGB.1 hap).2 e (ZCd he)) u
def ZRX (ca cb:Cls):Bool:=
 match ca,cb with
 | .p,_=>true
 | .c,_=>true
 | .r,.w=>false
 | .r,_=>true
 | _,_=>false
theorem swap (hA:A.good) {x y:Oper} (hc:ZRX (cls A P x) (cls A P y)=true) (hap:ZFg A ops x y=true)
 (hk:ZAV A P N ops x env h λe1 h1=>ZAV A P N ops y e1 h1 K):ZAV A P N ops y env h λe1 h1=>ZAV A P N ops x e1 h1 K:=by
 have hl:ZVk (cls A P x)=true:=by cases hx:cls A P x<;>rw [hx] at hc<;>first|rfl|cases hc
 obtain ⟨d,e,hd,HY,RX⟩:=ZKf hl hk;refine ZCp HY (ZDb hA hap hd e) ?_;intro d2 hd2 e2 h' hrel hK;refine RX _ _ _ (ZDn hA hap hd2 e2).symm ?_ ?_
 ·intro hr;rw [hr] at hc;cases hy:cls A P y with
  | p=>rw [hy] at hrel; simp only [ZDo] at hrel; rw [hrel]; exact Hp.sub_refl h
  | c=>rw [hy] at hrel; simp only [ZDo] at hrel; rw [hrel]; exact Hp.sub_refl h
  | r=>rw [hy] at hrel; simp only [ZDo] at hrel; rw [hrel]; exact Hp.sub_refl h
  | a=>
    rw [hy] at hrel;rcases hrel with rfl|⟨b,o,hb,rfl⟩
    .exact Hp.sub_refl _
    .exact Hp.sub_upd hb o
  | w=>rw [hy] at hc; cases hc
 .rw [<-ZFd hap hd hd2]; exact hK
theorem ZUK (hA:A.good) {x y:Oper} (hc:cls A P x=.r) (hap:ZFg A ops x y=true) (hself:(ZAs A x).all (fun d=>!(ZDV A ops x).contains d)=true)
 (hk:ZAV A P N ops x env h λe1 h1=>ZAV A P N ops y e1 h1 λe2 h2=>ZJG A x e2 h2/\K e2 h2):ZAV A P N ops y env h λe1 h1=>ZAV A P N ops x e1 h1 K:=by
 obtain ⟨hdo,g,hg,h1,h2⟩:=ZEZ hk
 have hsl:∀ d,some d=x.dst\/some d=ZA3 A x->d∉ZDV A ops x:=by
  intro d hd
  have:=List.all_eq_true.1 hself d (ZCd hd)
  simpa using this
 -- kept says: it is a load,and was carried out
 have fin:∀ (u:EV),ZAV A P N ops y (put A env x.dst u) h (fun e2 h2=>ZJG A x e2 h2∧K e2 h2)→(g=true→∀ t ox,x.op=.load t ox→u≠.val undef∧∀ c,A.cdc t=some c→ZAt P c t=true)→
  (g=true->∀ s d ox,x.op=.convert s d ox->u≠.val undef/\∃ e,P.underlying s=some (.slice e)/\P.underlying d=some .string/\P.underlying e=some (.int .u8))->
  (g=false->u=.val undef)->ZAV A P N ops y env h λe1 h1=>ZAV A P N ops x e1 h1 K:=by
  intro u HY hfit hcv hgu
  refine ZCp HY (ZDb hA hap (.inl rfl) u) ?_
  intro d2 hd2 e2 h' _ ⟨hkept,hK⟩
  have agx:=(ZDn (env:=env) hA hap hd2 e2)
  have envF:put A (put A env x.dst u) d2 e2=put A (put A env d2 e2) x.dst u:=ZFd hap (.inl rfl) hd2 u e2
  rw [envF] at hkept hK
  unfold ZJG at hkept
  split at hkept
  ·rename_i t ox hop
   split at hkept
   ·rename_i d hds
    split at hkept
    ·rename_i v hv
     have hu:u=.val v:=by
          rw [hds,ZCI] at hv; exact hv
     split at hkept
     ·
      have hgt:g=false:=by
          cases g with
          | false=>rfl
          | true=>exact absurd hu (hfit rfl t ox hop).1
      refine ZAL hdo (hg.agree agx.symm) (λe=>by rw [hgt] at e; cases e) (λ_=>?_)
      rw [hu] at hK
      exact hK
     ·rename_i hnt
      split at hkept
      ·rename_i c ad hcd hlook
       split at hkept
       ·rename_i z hz
        have hgt:g=true:=by
                  cases g with
                  | true=>rfl
                  | false=>rw [hgu rfl] at hu; cases hu; exact absurd rfl (hnt ·)
        have hlaw:=c.law _ _ hz
        refine ZAL hdo (hg.agree agx.symm) (λ_=>?_) (λe=>by rw [hgt] at e; cases e)
        unfold ZHe
        rw [hc]
        dsimp only
        have hlook':look A (put A env d2 e2) ox=.v (.pointer (some ad)):=by
                  have hm:ox∈x.op.operands:=by rw [hop]; simp [Op.operands]
                  have:=(ZDK (env:=put A env d2 e2) hA (hsl d (.inl hds.symm)) u).1 ox hm
                  rw [<-this,<-hds]; exact hlook
        simp only [opR,hop,hcd,hlook',(hfit hgt t ox hop).2 c hcd,cond_true]
        exact ⟨z,hkept,by show K (put A (put A env d2 e2) x.dst (EV.val (c.enc z))) h'; rw [hlaw,<-hu]; exact hK⟩
       .exact hkept.elim
      .exact hkept.elim
    .exact hkept.elim
   .exact hkept.elim
  ·rename_i t1 t2 ox hop
   split at hkept
   ·rename_i d hds
    split at hkept
    ·rename_i v hv
     have hu:u=.val v:=by
          rw [hds,ZCI] at hv; exact hv
     split at hkept
     ·have hgt:g=false:=by
          cases g with
          | false=>rfl
          | true=>exact absurd hu (hcv rfl t1 t2 ox hop).1
      refine ZAL hdo (hg.agree agx.symm) (λe=>by rw [hgt] at e; cases e) (λ_=>?_)
      rw [hu] at hK
      exact hK
     ·rename_i s
      split at hkept
      ·rename_i ad len cap hlook
       have hgt:g=true:=by
             cases g with
             | true=>rfl
             | false=>rw [hgu rfl] at hu; cases hu
       refine ZAL hdo (hg.agree agx.symm) (λ_=>?_) (λe=>by rw [hgt] at e; cases e)
       unfold ZHe
       rw [hc]
       dsimp only
       have hlook':look A (put A env d2 e2) ox=.v (.slice ad len cap):=by
             have hm:ox∈x.op.operands:=by rw [hop]; simp [Op.operands]
             have:=(ZDK (env:=put A env d2 e2) hA (hsl d (.inl hds.symm)) u).1 ox hm
             rw [<-this,<-hds]; exact hlook
       obtain ⟨_,e',hu1,hu2,hu3⟩:=hcv hgt t1 t2 ox hop
       simp only [opR,hop,hu1,hu2,hu3,hlook']
       rw [hu] at hK
       cases ad with
       | none=>have:ByteArray.empty=s:=hkept; subst this; exact hK
       | some ad=>
         obtain ⟨xs,h1,h2,h3⟩:=hkept
         exact ⟨xs,h1,h2,by rw [h3]; exact hK⟩
      .exact hkept.elim
     .exact hkept.elim
    .exact hkept.elim
   .exact hkept.elim
  .exact hkept.elim
 cases g with
 | false=>exact fin (.val undef) (h2 rfl) (λe=>by cases e) (λe=>by cases e) (λ_=>rfl)
 | true=>
   have hr:=h1 rfl
   unfold ZHe at hr
   rw [hc] at hr
   dsimp only at hr
   by_cases hload:∃ t ox,x.op=.load t ox
   ·obtain ⟨t,ox,hop⟩:=hload
    simp only [opR,hop] at hr
    split at hr
    ·rename_i c ad hcd hx
     cases hq:ZAt P c t with
     | false=>rw [hq] at hr; exact hr.elim
     | true=>
       rw [hq] at hr
       obtain ⟨y,_,hk⟩:=hr
       refine fin _ hk ?_ (λ_ s d ox' hop'=>by rw [hop] at hop'; cases hop') (λe=>by cases e)
       intro _ t' ox' hop'
       rw [hop] at hop'
       cases hop'
       refine ⟨?_,λc' hc'=>by rw [hcd] at hc'; cases hc'; exact hq⟩
       intro hu
       have hm:c.mem=true:=by
          simp only [ZAt,Bool.and_eq_true] at hq
          exact hq.1.1
       have hf:=c.form hm y
       have hu:c.enc y=undef:=by injection hu
       rw [hu] at hf
       split at hf
       .obtain ⟨cs,h,_⟩:=hf; cases h
       .cases hf.1
    .exact hr.elim
   ·by_cases hconv:∃ s d ox,x.op=.convert s d ox
    ·obtain ⟨s,d,ox,hop⟩:=hconv
     simp only [opR,hop] at hr
     split at hr
     ·rename_i e ad len cap hs hd hx
      split at hr
      ·rename_i he
       have key:∀ st,(ZAV A P N ops y (put A env x.dst (.val (.string st))) h fun e2 h2=>ZJG A x e2 h2∧K e2 h2)→ZAV A P N ops y env h fun e1 h1=>ZAV A P N ops x e1 h1 K:=by
            intro st hk
            refine fin _ hk (λ_ t ox hop'=>by rw [hop] at hop'; cases hop') ?_ (λe=>by cases e)
            intro _ s' d' ox' hop'
            rw [hop] at hop'; cases hop'
            exact ⟨by simp [undef],e,hs,hd,he⟩
       cases ad with
       | none=>exact key _ hr
       | some ad=>obtain ⟨xs,_,_,hk⟩:=hr; exact key _ hk
      .exact hr.elim
     .exact hr.elim
    .obtain ⟨e,k1,_⟩:=ZMv x _ _ _ hr
     exact fin e k1 (λ_ t ox hop=>absurd ⟨t,ox,hop⟩ hload) (λ_ s d ox hop=>absurd ⟨s,d,ox,hop⟩ hconv) (λe=>by cases e)
end
def Hp.fin (h:Hp):Prop:=∃ n,∀ b,n<=b->h b=none
theorem Hp.fin_fresh {h:Hp} (f:h.fin):∃ b,h b=none:=by obtain ⟨n,hn⟩:=f;exact ⟨n,hn n (Nat.le_refl _)⟩
theorem Hp.fin_upd {h:Hp} (f:h.fin) (b:Nat) (o:Obj):(h.upd b o).fin:=by obtain ⟨n,hn⟩:=f;refine ⟨n+b+1,λk hk=>?_⟩;unfold Hp.upd;rw [if_neg (by omega)];exact hn k (by omega)
theorem Hp.fin_le {h:Hp} {w:World} (l:h.le w):h.fin:=⟨w.heap.size,λ_ hb=>Hp.le_lt l hb⟩
theorem Hp.fin_wrs {h:Hp} (f:h.fin) (a:Addr) (vs:List Value) (i:Nat):(h.wrs a i vs).fin:=by obtain ⟨n,hn⟩:=f;exact ⟨n,λb hb=>(ZGp a vs i h b).2 (hn b hb)⟩
def ZMK (n:Nat) (h:Hp):World:={heap:=(List.range n).toArray.map λi=>(h i).getD default,tape:=λ_ _=>0,drawn:=0,os:=default,output:=#[]}
theorem ZP0 {n:Nat} {h:Hp} (hn:∀ b,n<=b->h b=none):h.le (ZMK n h):=by
 intro b o hb;have hlt:b<n:=by
  rcases Nat.lt_or_ge b n with h'|h'
  .exact h'
  .rw [hn b h'] at hb; cases hb
 simp [ZMK,hlt,hb]
theorem Hp.upd_upd {h:Hp} {b c:Nat} (hne:b≠c) (o p:Obj):(h.upd b o).upd c p=(h.upd c p).upd b o:=by
 funext k;unfold Hp.upd;by_cases h1:k=c
 .subst h1; rw [if_pos rfl,if_neg (Ne.symm hne),if_pos rfl]
 .rw [if_neg h1];by_cases h2:k=b
  .rw [if_pos h2,if_pos h2]
  .rw [if_neg h2,if_neg h2,if_neg h1]
theorem Hp.upd_none {h:Hp} {b c:Nat} {o:Obj} (hb:(h.upd b o) c=none):c≠b/\h c=none:=by
 unfold Hp.upd at hb;split at hb
 .cases hb
 .rename_i hne; exact ⟨hne,hb⟩
theorem Hp.upd_ne {h:Hp} {b c:Nat} {o:Obj} (hne:c≠b):(h.upd b o) c=h c:=by unfold Hp.upd; rw [if_neg hne]
theorem Hp.un_one {h:Hp} {b:Nat} (hb:h b=none) (o:Obj):h.un (Hp.one b o)=h.upd b o:=by
 funext k;unfold Hp.un Hp.one Hp.upd;by_cases hk:k=b
 .subst hk; simp [hb]
 .simp only [if_neg hk]; cases h k<;>rfl
theorem Hp.dj_one {h:Hp} {b:Nat} {o:Obj}:h.dj (Hp.one b o)↔h b=none:=by
 constructor
 .intro d;rcases d b with e|e
  .exact e
  .simp [Hp.one] at e
 .intro hb k;by_cases hk:k=b
  .subst hk; exact .inl hb
  .right; simp [Hp.one,hk]
section
variable {A:Ann} {P:Program} {N:Nat} {ops:Array Oper} {env:Env} {h:Hp} {K:Env->Hp->Prop}
theorem ZHt.wit {f:FuncId} {args:Array Value} {R:Value->Hp->Prop} (s:ZHt P f args h R) (hf:h.fin):∃ v h',R v h':=by obtain ⟨n,hn⟩:=hf;obtain ⟨e,w',_,⟨v,h',_,hR,_⟩,_⟩:=s (ZMK n h) Hp.emp (ZP0 hn) (λ_ _ hk=>by cases hk) (λ_=>.inr rfl) [];exact ⟨v,h',hR⟩
theorem ZHt.fin {f:FuncId} {args:Array Value} {R:Value->Hp->Prop} (s:ZHt P f args h R):ZHt P f args h λv h'=>R v h'/\h'.fin:=λw fr a b c=>
 (s w fr a b c).mono λ_ _ ⟨v,h',he,hR,rest⟩=>⟨v,h',he,⟨hR,Hp.fin_le rest.1⟩,rest⟩
theorem ZHt.upd {f:FuncId} {args:Array Value} {R:Value->Hp->Prop} (s:ZHt P f args h R) {b:Nat} (hb:h b=none) (o:Obj):ZHt P f args (h.upd b o) λv h2=>∃ h1,h2=h1.upd b o/\h1 b=none/\R v h1:=by
 have:=s.frame (g:=Hp.one b o) (Hp.dj_one.2 hb);rw [Hp.un_one hb] at this;refine this.mono λv h' ⟨h1,hR,he,hd⟩=>⟨h1,?_,Hp.dj_one.1 hd,hR⟩
 rw [he,Hp.un_one (Hp.dj_one.1 hd)]
def ZSy (o:Oper):Bool:=
 match o.op with
 | .call c=>match c.callee with
   | .value _=>true
   | .builtin .append=>true
   | _=>false
 | _=>false
theorem ZQk {b:Nat} {o:Obj}:∀ (vs:List Value) (h:Hp) (a:Addr) (i:Nat),a.block≠b→(h.upd b o).wrs a i vs=(h.wrs a i vs).upd b o
 | [],_,_,_,_=>rfl
 | v::l,h,a,i,hne=>by
   have e:(h.upd b o).setCell (a.add i) v=(h.setCell (a.add i) v).upd b o:=by
    funext k;unfold Hp.setCell Hp.upd;rw [ZJ6];by_cases h1:k=a.block
    .subst h1; simp [hne]
    .by_cases h2:k=b
     .simp [h2,Ne.symm hne]
     .simp [h1,h2]
   show ((h.upd b o).setCell (a.add i) v).wrs a (i+1) l=((h.setCell (a.add i) v).wrs a (i+1) l).upd b o;rw [e];exact ZQk l _ a (i+1) hne
theorem ZDk {c:Cdc} {a:Option Addr} {n:Nat} {h h2:Hp} {K K':List c.T->Prop} (hs:h.sub h2) (hk:ZCM c a n h K) (hKK:∀ xs,xs.length=n->K xs->K' xs):ZCM c a n h2 K':=by
 cases a with
 | none=>exact ⟨hk.1,hKK _ hk.1.symm hk.2⟩
 | some a=>obtain ⟨xs,h1,h3,h4⟩:=hk; exact ⟨xs,h1,Hp.sub_rds hs h3,hKK _ h1 h4⟩
theorem ZIO {c:Cdc} {a:Option Addr} {n:Nat} {h:Hp} {K:List c.T->Prop} (hk:ZCM c a n h K):∃ xs,xs.length=n/\K xs:=by
 cases a with
 | none=>exact ⟨[],hk.1.symm,hk.2⟩
 | some a=>obtain ⟨xs,h1,_,h4⟩:=hk; exact ⟨xs,h1,h4⟩
theorem ZWy {h:Hp} {b:Nat} {o:Obj} (hb:h b=none) {a:Addr} {n:Nat} (m:h.may a n):(h.upd b o).may a n:=by
 intro i hi;obtain ⟨⟨v,hv⟩,hf⟩:=m i hi;have hblk:=Hp.cell_block hv;have hne:(a.add i).block≠b:=by rintro e; rw [e] at hblk; exact hblk hb
 refine ⟨⟨v,?_⟩,?_⟩
 .unfold Hp.cell? at hv ⊢; rw [Hp.upd_ne hne]; exact hv
 .unfold Hp.frozen? at hf ⊢; rw [Hp.upd_ne hne]; exact hf
theorem ZMh {c:Cdc} {e:TypeId} {bytes:Nat} {a:Option Addr} {len cap:Nat} {b:Option Addr} {n:Nat} {K:Option Addr->Nat->Nat->Hp->Prop} (hk:ZX c e bytes a len cap b n h K) (hf:h.fin):∃ a l c h',K a l c h':=by
 obtain ⟨ys,_,h1,h2⟩:=ZIO hk;by_cases hc:len+n<=cap
 .have:=h1 hc;cases a with
  | none=>exact ⟨_,_,_,_,this⟩
  | some ad=>exact ⟨_,_,_,_,this.2⟩
 .obtain ⟨_,h3⟩:=h2 (by omega);obtain ⟨xs,_,h4⟩:=ZIO h3;obtain ⟨nb,hnb⟩:=Hp.fin_fresh hf;exact ⟨_,_,_,_,h4 (len+n) [] (Nat.le_refl _) (by simp) nb hnb⟩
theorem ZKl {c:Cdc} {e:TypeId} {bytes:Nat} {a:Option Addr} {len cap:Nat} {b:Option Addr} {n:Nat} {K K':Option Addr->Nat->Nat->Hp->Prop} (hk:ZX c e bytes a len cap b n h K)
 (hf:h.fin) (hKK:∀ a l c h',h'.fin->K a l c h'->K' a l c h'):ZX c e bytes a len cap b n h K':=by
 refine ZDk (Hp.sub_refl h) hk λys _ ⟨h1,h2⟩=>⟨λhc=>?_,λhc=>?_⟩
 .have:=h1 hc;cases a with
  | none=>exact hKK _ _ _ _ hf this
  | some ad=>exact ⟨this.1,hKK _ _ _ _ (Hp.fin_wrs hf _ _ _) this.2⟩
 .obtain ⟨h3,h4⟩:=h2 hc;exact ⟨h3,ZDk (Hp.sub_refl h) h4 λxs _ h5 nc pad h6 h7 nb hb=>hKK _ _ _ _ (Hp.fin_upd hf _ _) (h5 nc pad h6 h7 nb hb)⟩
theorem ZL2 {c:Cdc} (hm:c.mem=true) {e:TypeId} {bytes:Nat} {a:Option Addr} {len cap:Nat} {b:Option Addr} {n:Nat} {K:Option Addr→Nat→Nat→Hp→Prop} (hk:ZX c e bytes a len cap b n h K) {q:Nat} (hq:h q=none) (o:Obj):
 ZX c e bytes a len cap b n (h.upd q o) λa l c h2=>∃ h1,h2=h1.upd q o/\h1 q=none/\K a l c h1:=by
 refine ZDk (Hp.sub_upd hq o) hk λys hys ⟨h1,h2⟩=>⟨λhc=>?_,λhc=>?_⟩
 ·have:=h1 hc;cases a with
  | none=>exact ⟨h,rfl,hq,this⟩
  | some ad=>
    refine ⟨ZWy hq this.1,_,?_,(ZGp _ _ _ _ _).2 hq,this.2⟩;by_cases h0:ZG c ys=[]
    .rw [h0]; rfl
    .refine ZQk _ _ _ _ ?_;have hlen:0<n*c.n:=by have:=Zf hm ys;rw [hys] at this;have h9:(ZG c ys).length≠0:=λe=>h0 (List.length_eq_zero_iff.1 e);omega
     have:=ZDP this.1 hlen;rintro e;rw [e] at this;exact this hq
 .obtain ⟨h3,h4⟩:=h2 hc;refine ⟨h3,ZDk (Hp.sub_upd hq o) h4 λxs _ h5 nc pad h6 h7 nb hb=>?_⟩;obtain ⟨hne,hnb⟩:=Hp.upd_none hb;exact ⟨_,(Hp.upd_upd (Ne.symm hne) _ _),by rw [Hp.upd_ne (Ne.symm hne)]; exact hq,h5 nc pad h6 h7 nb hnb⟩
structure ZZ3 (T:Hp->(EV->Hp->Prop)->Prop) (h:Hp):Prop where
 wit:∀ k,T h k->h.fin->∃ e h',k e h'
 fin:∀ k,T h k->h.fin->T h λe h'=>h'.fin/\k e h'
 upd:∀ k,T h k->∀ b o,h b=none->T (h.upd b o) λe h2=>∃ h1,h2=h1.upd b o/\h1 b=none/\k e h1
theorem ZEP (h:Hp):ZZ3 (λ_ _=>False) h:=⟨λ_ e=>e.elim,λ_ e=>e.elim,λ_ e=>e.elim⟩
theorem ZFt {g:FuncId} {args:List Value} {r:Cdc}:ZZ3 (λh k=>ZA P g args r h λy h'=>k (.val (r.enc y)) h') h:=by
 refine ⟨λk hk hf=>?_,λk hk hf=>?_,λk hk b o hb=>?_⟩
 .obtain ⟨v,h',x,_,hx⟩:=ZHt.wit hk hf;exact ⟨_,_,hx⟩
 .exact (ZHt.fin hk).mono λv h' ⟨⟨x,e,hx⟩,hf'⟩=>⟨x,e,hf',hx⟩
 .exact (ZHt.upd hk hb o).mono λv h2 ⟨h1,e,hn,x,ex,hx⟩=>⟨x,ex,h1,e,hn,hx⟩
theorem ZNH {g:FuncId} {args:List Value} {r:Cdc} {h h2:Hp} {K K':r.T->Prop} (hs:h.sub h2) (hk:ZOT P g args r h K) (hKK:∀ x,K x->K' x):ZOT P g args r h2 K':=by obtain ⟨x,hx,hk⟩:=hk;exact ⟨x,λw hw=>hx w λb o hb=>hw b o (hs b o hb),hKK x hk⟩
theorem ZVW {g:FuncId} {args:List Value} {r:Cdc}:ZZ3 (λh k=>ZOT P g args r h λy=>k (.val (r.enc y)) h) h:=by
 refine ⟨λk hk hf=>?_,λk hk hf=>?_,λk hk b o hb=>?_⟩
 .obtain ⟨x,_,hx⟩:=hk;exact ⟨_,_,hx⟩
 .exact ZNH (Hp.sub_refl h) hk λx hx=>⟨hf,hx⟩
 .exact ZNH (Hp.sub_upd hb o) hk λx hx=>⟨h,rfl,hb,hx⟩
theorem ZN5 {o:Oper} (ht:ZSy o=true) (ρ:Operand→LV) (h:Hp):ZZ3 (opW A P o ρ) h:=by
 obtain ⟨dst,op,type,pos,after,guard⟩:=o;cases op<;>simp only [ZSy] at ht<;>try cases ht
 rename_i c;obtain ⟨callee,args,ats⟩:=c;cases callee with
 | value f=>
   have e:∀ h k,opW A P ⟨dst,.call ⟨.value f,args,ats⟩,type,pos,after,guard⟩ ρ h k=(match ZH6 ρ args.toList with
    | some l=>(match ρ f with
      | .v (.func (.func g) first captured)=>match ZYN A f with
        | some r=>ZBV P g first captured l r h λy h'=>k (.val (r.enc y)) h'
        | none=>match A.res g with
          | some r=>match P.funcs[g]? with
            | some fn=>match fn.body with
              | some _=>ZA P g (first.toList++(l++captured.toList)) r h λy h'=>k (.val (r.enc y)) h'
              | none=>ZOT P g (first.toList++(l++captured.toList)) r h λy=>k (.val (r.enc y)) h
            | none=>False
          | none=>False
      | _=>False)
    | none=>False):=by
    intro h k
    simp only [opW]
    cases ZH6 ρ args.toList<;>rfl
   rw [show opW A P ⟨dst,.call ⟨.value f,args,ats⟩,type,pos,after,guard⟩ ρ=_ from funext λh=>funext λk=>e h k];split
   ·split
    ·split
     .refine ⟨λk hk hf=>ZFt.wit k hk.2 hf,λk hk hf=>⟨hk.1,ZFt.fin k hk.2 hf⟩,λk hk b o hb=>⟨hk.1,ZFt.upd k hk.2 b o hb⟩⟩
     ·split
      .split
       .split
        .exact ZFt
        .exact ZVW
       .exact ZEP h
      .exact ZEP h
    .exact ZEP h
   .exact ZEP h
 | invoke r m=>cases ht
 | builtin b=>
   cases b<;>simp only at ht<;>try cases ht
   refine ⟨λk hk hf=>?_,λk hk hf=>?_,λk hk b o hb=>?_⟩
   all_goals
    simp only [opW] at hk ⊢
    split at hk
    .rename_i hcal hl; cases hcal
    ·rename_i p len cap q n cap' hl
     split at hk
     ·split at hk
      ·split at hk
       ·rename_i cd hcd
        cases hq:(ZAt P cd _&&(Nat.ble 1 (ZA2 P _)&&(Nat.ble (ZA2 P _) 1048576&&ZD4 P _))) with
        | false=>rw [hq] at hk; exact hk.elim
        | true=>
          rw [hq] at hk;have hm:cd.mem=true:=by simp only [Bool.and_eq_true,ZAt] at hq;exact hq.1.1.1
          simp only [cond_true] at hk ⊢;first
               | (obtain ⟨a,l,c,h',hx⟩:=ZMh hk hf; exact ⟨_,_,hx⟩)
               | exact ZKl hk hf λa l c h' hf' hx=>⟨hf',hx⟩
               | exact ZL2 hm hk hb o
       .exact hk.elim
      .exact hk.elim
     .exact hk.elim
    .rename_i hcal hl; cases hcal
    .rename_i hcal hl; cases hcal
    .exact hk.elim
theorem ZWz (o:Oper) (ρ:Operand→LV) (k:Obj→(Nat→Value)→Prop) (hk:opA P o ρ k):∃ ob f,∀ k',opA P o ρ k'↔k' ob f:=by
 obtain ⟨dst,op,type,pos,after,guard⟩:=o;cases op;case alloc e=>
  simp only [opA] at hk ⊢
  split at hk
  .exact ⟨_,_,λk'=>Iff.rfl⟩
  .exact hk.elim
 case box e x=>
  simp only [opA] at hk ⊢
  split at hk
  .exact ⟨_,_,λk'=>Iff.rfl⟩
  .exact hk.elim
 case buildSlice t n ps=>
  simp only [opA] at hk ⊢
  split at hk
  ·rename_i e l hu hl
   split at hk
   ·rename_i m z hm hz
    cases hq:Nat.ble (n*m) 16777216 with
    | false=>rw [hq] at hk; exact hk.elim
    | true=>
      rw [hq] at hk;simp only [cond_true] at hk ⊢;split at hk
      .exact ⟨_,_,λk'=>Iff.rfl⟩
      .exact hk.elim
   .exact hk.elim
  .exact hk.elim
 case makeSlice t l c=>
  simp only [opA] at hk ⊢
  split at hk
  ·rename_i e kn n km m hu hl hc
   split at hk
   ·cases hq:ZD4 P e with
    | false=>rw [hq] at hk; exact hk.elim
    | true=>
      rw [hq] at hk;simp only [cond_true] at hk ⊢;obtain ⟨h0,h1,h2,h3,hk⟩:=hk;exact ⟨_,_,λk'=>⟨λh=>h.2.2.2.2,λh=>⟨h0,h1,h2,h3,h⟩⟩⟩
   .exact hk.elim
  .exact hk.elim
 case makeChan t n=>
  simp only [opA] at hk ⊢
  split at hk
  .split at hk
   .obtain ⟨h0,h1,h2,hk⟩:=hk
    exact ⟨_,_,λk'=>⟨λh=>h.2.2.2,λh=>⟨h0,h1,h2,h⟩⟩⟩
   .exact hk.elim
  .exact hk.elim
 case makeMap t r=>
  simp only [opA] at hk ⊢
  split at hk
  .exact ⟨_,_,λk'=>Iff.rfl⟩
  .exact hk.elim
 all_goals exact hk.elim
def ZUy (A:Ann) (P:Program) (x y:Oper):Bool:=
 (x.guard.isNone&&y.guard.isNone)&&match cls A P x,cls A P y with
   | .a,.a=>true
   | .w,.a=>ZSy x
   | _,_=>false
theorem ZDT {o:Oper} (hg:o.guard=none):ZAV A P N ops o env h K↔(ZFs N o=true/\ZHe A P o env h K):=by
 unfold ZAV;rw [hg];cases ZFs N o with
 | false=>simp
 | true=>simp
theorem ZMw {o:Oper} (hg:o.guard=none) (hc:cls A P o=.a) (hk:ZAV A P N ops o env h K):∃ (ob:Obj) (f:Nat->Value),∀ (env2:Env) (h2:Hp) (K':Env->Hp->Prop),ZAy A ops o env env2->
 (ZAV A P N ops o env2 h2 K'↔∀ b,h2 b=none->K' (put A env2 o.dst (.val (f b))) (h2.upd b ob)):=by
 obtain ⟨h1,h2⟩:=(ZDT hg).1 hk;unfold ZHe at h2;rw [hc] at h2;dsimp only at h2;obtain ⟨ob,f,hiff⟩:=ZWz _ _ _ h2;refine ⟨ob,f,λenv2 h2 K' ag=>?_⟩;rw [ZDT hg];unfold ZHe;rw [hc];dsimp only;rw [<-ZK6 ag.1,hiff];exact ⟨λh=>h.2,λh=>⟨h1,h⟩⟩
theorem ZYr (hA:A.good) {x y:Oper} (hsw:ZUy A P x y=true) (hap:ZFg A ops x y=true) (hf:h.fin)
 (hk:ZAV A P N ops x env h λe1 h1=>ZAV A P N ops y e1 h1 K):ZAV A P N ops y env h λe1 h1=>ZAV A P N ops x e1 h1 K:=by
 unfold ZUy at hsw;simp only [Bool.and_eq_true,Option.isNone_iff_eq_none] at hsw;obtain ⟨⟨gx,gy⟩,hsw⟩:=hsw;split at hsw
 .rename_i hx hy;obtain ⟨ox,fx,ix⟩:=ZMw gx hx hk;rw [ix env h _ (ZAy.refl x env)] at hk;obtain ⟨b0,hb0⟩:=Hp.fin_fresh hf;obtain ⟨oy,fy,iy⟩:=ZMw gy hy (hk b0 hb0);have hag:∀ u,ZAy A ops y (put A env x.dst u) env:=λu=>ZDb hA hap (.inl rfl) u;have hag2:∀ u v,ZAy A ops y (put A env x.dst u) (put A env x.dst v):=λu v=>⟨λz hz=>((hag u).1 z hz).trans ((hag v).1 z hz).symm,λs w hs=>((hag u).2 s w hs).trans ((hag v).2 s w hs).symm⟩
  rw [iy env h _ (hag _)];intro b hb;have hagx:ZAy A ops x env (put A env y.dst (.val (fy b))):=(ZDn hA hap (.inl rfl) _).symm;rw [ix _ _ _ hagx];intro c hc;obtain ⟨hne,hcn⟩:=Hp.upd_none hc;have:=(iy _ _ _ (hag2 _ _)).1 (hk c hcn) b (by rw [Hp.upd_ne (Ne.symm hne)]; exact hb);rw [ZFd hap (.inl rfl) (.inl rfl),Hp.upd_upd hne] at this;exact this
 .rename_i hx hy;obtain ⟨hd,hr⟩:=(ZDT gx).1 hk;unfold ZHe at hr;rw [hx] at hr;dsimp only at hr;have tm:=ZN5 (A:=A) (P:=P) hsw (look A env) h;obtain ⟨e0,h0,hy0⟩:=tm.wit _ hr hf;obtain ⟨oy,fy,iy⟩:=ZMw gy hy hy0;have hag:∀ u,ZAy A ops y (put A env x.dst u) env:=λu=>ZDb hA hap (.inl rfl) u;have hag2:∀ u v,ZAy A ops y (put A env x.dst u) (put A env x.dst v):=λu v=>⟨λz hz=>((hag u).1 z hz).trans ((hag v).1 z hz).symm,λs w hs=>((hag u).2 s w hs).trans ((hag v).2 s w hs).symm⟩
  rw [iy env h _ (hag _)];intro b hb;have hagx:ZAy A ops x env (put A env y.dst (.val (fy b))):=(ZDn hA hap (.inl rfl) _).symm;rw [ZDT gx];refine ⟨hd,?_⟩;unfold ZHe;rw [hx];dsimp only;rw [<-ZKg hagx.1];refine ZOE _ _ _ _ _ ?_ (tm.upd _ hr b oy hb);rintro e h2 ⟨h1,rfl,hb1,hyy⟩;have:=(iy _ _ _ (hag2 _ _)).1 hyy b hb1;rw [ZFd hap (.inl rfl) (.inl rfl)] at this;exact this
 .cases hsw
theorem ZHv {o:Oper} (hf:h.fin) (hc:cls A P o=.w→o.guard=none∧ZSy o=true) (hk:ZAV A P N ops o env h K):ZAV A P N ops o env h fun e h'=>h'.fin∧K e h':=by
 by_cases hw:cls A P o=.w
 .obtain ⟨hg,ht⟩:=hc hw;rw [ZDT hg] at hk ⊢;refine ⟨hk.1,?_⟩;have hr:=hk.2;unfold ZHe at hr ⊢;rw [hw] at hr ⊢;exact (ZN5 (A:=A) (P:=P) ht (look A env) h).fin _ hr hf
 ·refine ZCp hk (ZAy.refl o env) fun d _ e h' hrel hK=>⟨?_,hK⟩
  cases hcl:cls A P o with
  | p=>rw [hcl] at hrel; simp only [ZDo] at hrel; rw [hrel]; exact hf
  | c=>rw [hcl] at hrel; simp only [ZDo] at hrel; rw [hrel]; exact hf
  | r=>rw [hcl] at hrel; simp only [ZDo] at hrel; rw [hrel]; exact hf
  | a=>
    rw [hcl] at hrel;rcases hrel with rfl|⟨b,ob,_,rfl⟩
    .exact hf
    .exact Hp.fin_upd hf b ob
  | w=>exact absurd hcl hw
end
inductive Dep (ops:Array Oper):Nat->Nat->Prop
 | edge {j:Nat} {o:Oper} {e:Edge} (ho:ops[j]?=some o) (he:e∈o.after) (hb:Region.binds .any e=true):Dep ops e.on j
 | trans {i k j:Nat} (h1:Dep ops i k) (h2:Dep ops k j):Dep ops i j
def ZL4 (acc:List Nat):List Edge->Nat
 | []=>0
 | e::l=>bif Region.binds .any e then (2 ^ e.on ||| (acc.getD e.on 0 ||| ZL4 acc l)) else ZL4 acc l
def ZaU:List Oper->List Nat->List Nat
 | [],acc=>acc
 | o::l,acc=>ZaU l (acc++[ZL4 acc o.after.toList])
theorem ZMG {i j:Nat} (h:(2 ^ i).testBit j=true):i=j:=by rw [Nat.testBit_two_pow] at h;simpa using h
theorem ZSW {ops:Array Oper} {acc:List Nat} (hacc:∀ j i,(acc.getD j 0).testBit i=true→Dep ops i j) {n:Nat} {o:Oper} (hn:ops[n]?=some o):
 ∀ l:List Edge,(∀ e∈l,e∈o.after)->∀ i,(ZL4 acc l).testBit i=true->Dep ops i n:=by
 intro l;induction l with
 | nil=>intro _ i hi; simp [ZL4] at hi
 | cons e l ih=>
   intro hl i hi;unfold ZL4 at hi;cases hb:Region.binds .any e with
   | false=>rw [hb] at hi; exact ih (λx hx=>hl x (List.mem_cons_of_mem _ hx)) i hi
   | true=>
     rw [hb] at hi;simp only [cond_true,Nat.testBit_or,Bool.or_eq_true] at hi;rcases hi with h|h|h
     .rw [<-ZMG h]; exact .edge hn (hl e (by simp)) hb
     .exact .trans (hacc _ _ h) (.edge hn (hl e (by simp)) hb)
     .exact ih (λx hx=>hl x (List.mem_cons_of_mem _ hx)) i h
theorem ZVe {ops:Array Oper}:∀ (l:List Oper) (acc:List Nat),(∀ k o,l[k]?=some o→ops[acc.length+k]?=some o)→(∀ j i,(acc.getD j 0).testBit i=true→Dep ops i j)→
 ∀ j i,((ZaU l acc).getD j 0).testBit i=true->Dep ops i j:=by
 intro l;induction l with
 | nil=>intro acc _ h; exact h
 | cons o l ih=>
   intro acc hl h;refine ih (acc++[ZL4 acc o.after.toList]) ?_ ?_
   .intro k o' hk;have:=hl (k+1) o' (by simpa using hk);simp only [List.length_append,List.length_cons,List.length_nil,Nat.zero_add];rw [show acc.length+1+k=acc.length+(k+1) by omega]; exact this
   .intro j i hi;by_cases h1:j<acc.length
    .rw [List.getD_eq_getElem?_getD,List.getElem?_append_left h1,<-List.getD_eq_getElem?_getD] at hi;exact h j i hi
    .by_cases h2:j=acc.length
     .subst h2;simp [List.getD_eq_getElem?_getD] at hi;exact ZSW (n:=acc.length) (o:=o) h (by simpa using hl 0 o rfl) o.after.toList (λe he=>by simpa using he) i (by simpa using hi)
     .rw [List.getD_eq_getElem?_getD,List.getElem?_eq_none (by simp; omega)] at hi;simp at hi
abbrev Seq:=List (Nat×List Nat)
section
variable {A:Ann} {P:Program} {N:Nat} {ops:Array Oper}
def ZaM (A:Ann) (ops:Array Oper) (x:Oper):Bool:=(ZAs A x).all λd=>!(ZDV A ops x).contains d
def isR (cl:Cls):Bool:=match cl with|.r=>true|_=>false
def ZPF (A:Ann) (P:Program) (ops:Array Oper) (i:Nat) (ki:List Nat) (j:Nat) (ks:List Nat):Bool:=
 match ops[i]?,ops[j]? with
 | some x,some y=>ki.isEmpty&&(ZFg A ops x y&&(ZRX (cls A P x) (cls A P y)||((isR (cls A P x)&&(ks.contains i&&ZaM A ops x))||(ks.isEmpty&&ZUy A P x y))))
 | _,_=>false
def ZMU (A:Ann) (ops:Array Oper) (i k:Nat):Bool:=
 match ops[i]?,ops[k]? with
 | some x,some z=>(ZAs A x).all λd=>!(ZDV A ops z).contains d&&(ZAs A z).all λe=>ZBM A d e
 | _,_=>false
def ZZ4 (bef:List Nat) (i j:Nat):Bool:=(bef.getD j 0).testBit i
theorem Dep.lt {ops:Array Oper} {i j:Nat} (h:Dep ops i j):j<ops.size:=by
 induction h with
 | edge ho _ _=>exact (Array.getElem?_eq_some_iff.1 ho).1
 | trans _ _ _ ih=>exact ih
def asB (asm:List (Nat×Nat)) (i j:Nat):Bool:=asm.any λp=>Nat.beq p.1 i&&Nat.beq p.2 j
def asD (asm:List (Nat×Nat)) (bef:List Nat) (i j:Nat):Bool:=asm.any λp=>Nat.beq p.2 j&&ZZ4 bef i p.1
def AsO (ops:Array Oper) (asm:List (Nat×Nat)) (i j:Nat):Prop:=asB asm i j=true\/∃ k,Dep ops i k/\asB asm k j=true
theorem ZUw {ops:Array Oper} {asm:List (Nat×Nat)} {bef:List Nat} (hb:∀ j i,(bef.getD j 0).testBit i=true->Dep ops i j) {i j:Nat} (h:asB asm i j||asD asm bef i j):AsO ops asm i j:=by
 rw [Bool.or_eq_true] at h;rcases h with h|h
 .exact .inl h
 .unfold asD at h;rw [List.any_eq_true] at h;obtain ⟨p,hp,h⟩:=h;rw [Bool.and_eq_true] at h;refine .inr ⟨p.1,hb _ _ h.2,?_⟩;unfold asB;rw [List.any_eq_true];exact ⟨p,hp,by rw [h.1]; simp⟩
def ZNs (A:Ann) (P:Program) (ops:Array Oper) (asm:List (Nat×Nat)) (bef:List Nat) (j:Nat) (ks:List Nat):Seq->Bool
 | []=>true
 | (i,ki)::m=>(ZZ4 bef i j||(ZPF A P ops i ki j ks||(asB asm i j||asD asm bef i j)))&&((!ks.contains i||m.all λq=>ZMU A ops q.1 i||ZZ4 bef q.1 j)&&ZNs A P ops asm bef j ks m)
def ZN7 (A:Ann) (P:Program) (ops:Array Oper) (asm:List (Nat×Nat)) (bef:List Nat):Seq→Seq→Bool
 | _,[]=>true
 | pre,(j,ks)::l=>(match ops[j]? with
    | some o=>o.after.toList.all λe=>!Region.binds .any e||pre.any λq=>Nat.beq q.1 e.on
    | none=>false)&&(!(pre.any λq=>Nat.beq q.1 j)&&(ZNs A P ops asm bef j ks pre&&ZN7 A P ops asm bef (pre++[(j,ks)]) l))
def ZGv (A:Ann) (P:Program) (ops:Array Oper) (asm:List (Nat×Nat)) (seq:Seq):Bool:=
 Nat.beq seq.length ops.size&&ZN7 A P ops asm (ZaU ops.toList []) [] seq
def ZG8 (A:Ann) (P:Program) (ops:Array Oper) (seq:Seq):Bool:=ZGv A P ops [] seq
structure ZXl (A:Ann) (P:Program) (ops:Array Oper) (asm:List (Nat×Nat)) (L:Seq):Prop where
 nd:(L.map Prod.fst).Nodup
 pair2:∀ p q,List.Sublist [p,q] L->Dep ops p.1 q.1\/(ZPF A P ops p.1 p.2 q.1 q.2=true\/AsO ops asm p.1 q.1)
 pair3:∀ p q r,List.Sublist [p,q,r] L->p.1∈r.2->ZMU A ops q.1 p.1=true\/Dep ops q.1 r.1
theorem ZLv {asm:List (Nat×Nat)} {bef:List Nat} (hb:∀ j i,(bef.getD j 0).testBit i=true→Dep ops i j) {j:Nat} {ks:List Nat}:∀ {m:Seq},ZNs A P ops asm bef j ks m=true→
 (∀ p∈m,Dep ops p.1 j\/(ZPF A P ops p.1 p.2 j ks=true\/AsO ops asm p.1 j))/\(∀ p q,List.Sublist [p,q] m->p.1∈ks->ZMU A ops q.1 p.1=true\/Dep ops q.1 j):=by
 intro m;induction m with
 | nil=>intro _; exact ⟨λp hp=>(by cases hp),λp q h=>(by cases h)⟩
 | cons x m ih=>
   intro h;obtain ⟨i,ki⟩:=x;simp only [ZNs,Bool.and_eq_true] at h;obtain ⟨h1,h2,h3⟩:=h;obtain ⟨g1,g2⟩:=ih h3;constructor
   .intro p hp;rcases List.mem_cons.1 hp with rfl|hp
    .rw [Bool.or_eq_true,Bool.or_eq_true] at h1;exact h1.imp (hb _ _) λh=>h.imp id (ZUw hb)
    .exact g1 p hp
   ·intro p q hs hk;cases hs with
    | cons _ hs=>exact g2 p q hs hk
    | cons_cons _ hs=>
      have hq:q∈m:=List.singleton_sublist.1 hs;simp only [Bool.or_eq_true,Bool.not_eq_true',List.contains_eq_mem,decide_eq_false_iff_not,List.all_eq_true] at h2;rcases h2 with h2|h2
      .exact absurd hk h2
      .exact (h2 q hq).imp id (hb _ _)
theorem ZMz {asm:List (Nat×Nat)} {bef:List Nat} (hb:∀ j i,(bef.getD j 0).testBit i=true→Dep ops i j):∀ (l pre:Seq),ZN7 A P ops asm bef pre l=true→ZXl A P ops asm pre→
 (∀ q∈pre,q.1<ops.size)->(∀ q∈pre,∀ o,ops[q.1]?=some o->∀ e∈o.after,Region.binds .any e=true->∃ p,p.1=e.on/\List.Sublist [p,q] pre)->
 ZXl A P ops asm (pre++l)/\(∀ q∈pre++l,q.1<ops.size)/\(∀ q∈pre++l,∀ o,ops[q.1]?=some o->∀ e∈o.after,Region.binds .any e=true->∃ p,p.1=e.on/\List.Sublist [p,q] (pre++l)):=by
 intro l;induction l with
 | nil=>intro pre _ h1 h2 h3; rw [List.append_nil]; exact ⟨h1,h2,h3⟩
 | cons y l ih=>
   intro pre h h1 h2 h3;obtain ⟨j,ks⟩:=y;simp only [ZN7,Bool.and_eq_true] at h;obtain ⟨he,hn,hp,hl⟩:=h;cases ho:ops[j]? with
   | none=>rw [ho] at he; cases he
   | some o=>
     rw [ho] at he;simp only [List.all_eq_true,Bool.or_eq_true,Bool.not_eq_true',List.any_eq_true,ZFb] at he;obtain ⟨p1,p2⟩:=ZLv (A:=A) (P:=P) hb hp;have hnot:∀ q∈pre,q.1≠j:=by intro q hq e;have:pre.any (λq=>Nat.beq q.1 j)=true:=List.any_eq_true.2 ⟨q,hq,ZFb.2 e⟩;rw [this] at hn; cases hn
     have hlt:j<ops.size:=(Array.getElem?_eq_some_iff.1 ho).1;have:=ih (pre++[(j,ks)]) hl ⟨?_,?_,?_⟩ ?_ ?_
     .rw [List.append_assoc] at this; exact this
     .rw [List.map_append,List.nodup_append];refine ⟨h1.nd,by simp,?_⟩;intro a ha b hb' e;simp only [List.map_cons,List.map_nil,List.mem_singleton] at hb';obtain ⟨q,hq,rfl⟩:=List.mem_map.1 ha;exact hnot q hq (e.trans hb')
     ·intro p q hs;obtain ⟨a,b,e,ha,hb'⟩:=List.sublist_append_iff.1 hs;match a,e with
      | [],e=>simp at e; subst e; have:=hb'.length_le; simp at this
      | [x],e=>
        simp at e;obtain ⟨rfl,rfl⟩:=e;have hq:=List.singleton_sublist.1 hb';simp only [List.mem_singleton] at hq;subst hq;exact p1 p (List.singleton_sublist.1 ha)
      | [x,y],e=>simp at e; obtain ⟨rfl,rfl,_⟩:=e; exact h1.pair2 _ _ ha
      | x::y::z::a,e=>simp at e
     ·intro p q r hs hk;obtain ⟨a,b,e,ha,hb'⟩:=List.sublist_append_iff.1 hs;match a,e with
      | [],e=>simp at e; subst e; have:=hb'.length_le; simp at this
      | [x],e=>simp at e; obtain ⟨rfl,rfl⟩:=e; have:=hb'.length_le; simp at this
      | [x,y],e=>
        simp at e;obtain ⟨rfl,rfl,rfl⟩:=e;have hq:=List.singleton_sublist.1 hb';simp only [List.mem_singleton] at hq;subst hq;exact p2 _ _ ha hk
      | [x,y,z],e=>simp at e; obtain ⟨rfl,rfl,rfl,_⟩:=e; exact h1.pair3 _ _ _ ha hk
      | x::y::z::u::a,e=>simp at e
     .intro q hq;rcases List.mem_append.1 hq with hq|hq
      .exact h2 q hq
      .simp only [List.mem_singleton] at hq; subst hq; exact hlt
     .intro q hq o' ho' e he' hbnd;rcases List.mem_append.1 hq with hq|hq
      .obtain ⟨p,hp1,hp2⟩:=h3 q hq o' ho' e he' hbnd;exact ⟨p,hp1,hp2.trans (List.sublist_append_left _ _)⟩
      .simp only [List.mem_singleton] at hq;subst hq;rw [ho] at ho';cases ho';rcases he e (by simpa using he') with h|⟨p,hp1,hp2⟩
       .rw [hbnd] at h; cases h
       .exact ⟨p,hp2,List.Sublist.append (List.singleton_sublist.2 hp1) (List.Sublist.refl [(j,ks)])⟩
theorem ZCv {i:Nat} {ks:List Nat} {l:Seq} {env:Env} {h:Hp} {K:Env→Hp→Prop}:
 ZHf A P N ops ((i,ks)::l) env h K↔∃ o,ops[i]?=some o/\ZAV A P N ops o env h λe h=>ZCQ A ops e h ks/\ZHf A P N ops l e h K:=by
 cases ks with
 | nil=>
   simp only [ZHf];cases ho:ops[i]? with
   | none=>simp
   | some o=>
     simp only [Option.some.injEq,exists_eq_left',ZCQ];exact ⟨λhk=>Z6 hk λ_ _ h=>⟨trivial,h⟩,λhk=>Z6 hk λ_ _ h=>h.2⟩
 | cons k ks=>
   simp only [ZHf];cases ho:ops[i]? with
   | none=>simp
   | some o=>simp
theorem ZFZ {l:Seq}:∀ {env:Env} {h:Hp} {K K':Env→Hp→Prop},(∀ e h,K e h→K' e h)→ZHf A P N ops l env h K→ZHf A P N ops l env h K':=by
 induction l with
 | nil=>intro env h K K' hK hk; exact hK _ _ hk
 | cons y l ih=>
   intro env h K K' hK hk;obtain ⟨i,ks⟩:=y;rw [ZCv] at hk ⊢;obtain ⟨o,ho,hk⟩:=hk;exact ⟨o,ho,Z6 hk λe h' ⟨h1,h2⟩=>⟨h1,ih hK h2⟩⟩
theorem ZLp {env:Env} {h:Hp}:∀ {ks S:List Nat},(∀ i∈S,i∈ks)→ZCQ A ops env h ks→ZCQ A ops env h S:=by
 intro ks S hs hk
 have all:∀ {l:List Nat},ZCQ A ops env h l→∀ i∈l,(match ops[i]? with|some o=>ZJG A o env h|none=>False):=by
  intro l;induction l with
  | nil=>intro _ i hi; cases hi
  | cons x l ih=>
    intro hk i hi;rcases List.mem_cons.1 hi with rfl|hi
    .exact hk.1
    .exact ih hk.2 i hi
 induction S with
 | nil=>trivial
 | cons x S ih=>exact ⟨all hk x (hs x (by simp)),ih λi hi=>hs i (List.mem_cons_of_mem _ hi)⟩
theorem ZS6 (hA:A.good) {z:Oper} {env:Env} {h:Hp} {d:Option Tmp} {u:EV} (hd:∀ k,d=some k→k∉ZDV A ops z∧∀ e∈ZAs A z,ZBM A k e=true)
 (hk:ZJG A z (put A env d u) h):ZJG A z env h:=by
 cases d with
 | none=>exact hk
 | some d=>
   obtain ⟨h1,h2⟩:=hd d rfl;unfold ZJG at hk ⊢;split at hk
   ·rename_i t x hop;have hl:look A (put A env (some d) u) x=look A env x:=(ZDK (ops:=ops) hA h1 u).1 x (by rw [hop]; simp [Op.operands]);split at hk
    .rename_i e hds;have:=h2 e (by unfold ZAs; simp [hds]);obtain ⟨n1,n2,n3⟩:=ZDA.1 this;have he:put A env (some d) u e=env e:=by
      rcases ZBl (A:=A) (env:=env) u (Ne.symm n1) with h|⟨_,_,h4⟩
      .exact h
      .exact absurd h4 n3
     rw [he,hl] at hk;exact hk
    .exact hk.elim
   ·rename_i t1 t2 x hop;have hl:look A (put A env (some d) u) x=look A env x:=(ZDK (ops:=ops) hA h1 u).1 x (by rw [hop]; simp [Op.operands]);split at hk
    .rename_i e hds;have:=h2 e (by unfold ZAs; simp [hds]);obtain ⟨n1,n2,n3⟩:=ZDA.1 this;have he:put A env (some d) u e=env e:=by
      rcases ZBl (A:=A) (env:=env) u (Ne.symm n1) with h|⟨_,_,h4⟩
      .exact h
      .exact absurd h4 n3
     rw [he,hl] at hk;exact hk
    .exact hk.elim
   .exact hk.elim
theorem ZMX (hA:A.good) {x:Oper} {env:Env} {h:Hp} {d:Option Tmp} {u:EV} (hdx:d=x.dst∨d=ZA3 A x):∀ {S:List Nat},
 (∀ k∈S,∀ z,ops[k]?=some z->∀ d∈ZAs A x,d∉ZDV A ops z/\∀ e∈ZAs A z,ZBM A d e=true)->ZCQ A ops (put A env d u) h S->ZCQ A ops env h S:=by
 intro S;induction S with
 | nil=>intro _ _; trivial
 | cons k S ih=>
   intro hS hk;refine ⟨?_,ih (λk hk=>hS k (List.mem_cons_of_mem _ hk)) hk.2⟩;have:=hk.1;cases hz:ops[k]? with
   | none=>rw [hz] at this; exact this
   | some z=>
     rw [hz] at this;refine ZS6 (ops:=ops) hA (λk' hk'=>?_) this;subst hk';exact hS k (by simp) z hz k' (ZCd hdx)
theorem ZYt (hA:A.good) {j:Nat} {ks:List Nat} {y:Oper} (hy:ops[j]?=some y) {l2:Seq}:∀ (l1:Seq) (S:List Nat) (env:Env) (h:Hp) (K:Env→Hp→Prop),h.fin→
 (∀ p∈l1,ZPF A P ops p.1 p.2 j ks=true)->(∀ k∈S,k∈ks)->(∀ k∈S,∀ p∈l1,ZMU A ops p.1 k=true)->
 (∀ p q,List.Sublist [p,q] l1->p.1∈ks->ZMU A ops q.1 p.1=true)->
 ZHf A P N ops (l1++(j,ks)::l2) env h K->ZAV A P N ops y env h λe h=>ZCQ A ops e h S/\ZHf A P N ops (l1++l2) e h K:=by
 intro l1
 induction l1 with
 | nil=>
   intro S env h K _ _ hS _ _ hk
   rw [List.nil_append,ZCv] at hk
   obtain ⟨o,ho,hk⟩:=hk
   rw [hy] at ho; cases ho
   exact Z6 hk λe h ⟨h1,h2⟩=>⟨ZLp hS h1,h2⟩
 | cons p l1 ih=>
   intro S env h K hf hp hS hkeep h3 hk
   obtain ⟨i,ki⟩:=p
   rw [List.cons_append,ZCv] at hk
   obtain ⟨x,hx,hk⟩:=hk
   have hpair:=hp (i,ki) (by simp)
   unfold ZPF at hpair
   dsimp only at hpair
   rw [hx,hy] at hpair
   simp only [Bool.and_eq_true,Bool.or_eq_true,List.isEmpty_iff] at hpair
   obtain ⟨hki,hap,hcase⟩:=hpair
   subst hki
   have hkS:∀ k∈S,∀ z,ops[k]?=some z->∀ d∈ZAs A x,d∉ZDV A ops z/\∀ e∈ZAs A z,ZBM A d e=true:=by
    intro k hkS z hz d hd
    have:=hkeep k hkS (i,[]) (by simp)
    unfold ZMU at this
    dsimp only at this
    rw [hx,hz] at this
    simp only [List.all_eq_true,Bool.and_eq_true,Bool.not_eq_true',List.contains_eq_mem,decide_eq_false_iff_not] at this
    exact this d hd
   have rest:∀ q∈l1,ZPF A P ops q.1 q.2 j ks=true:=λq hq=>hp q (List.mem_cons_of_mem _ hq)
   have h3':∀ p q,List.Sublist [p,q] l1->p.1∈ks->ZMU A ops q.1 p.1=true:=λp q hs=>h3 p q (hs.cons _)
   -- the end: what is kept stays said ahead of x
   have fin:ZVk (cls A P x)=true->ZAV A P N ops y env h (λe2 h2=>ZAV A P N ops x e2 h2 λe3 h3=>ZCQ A ops e3 h3 S/\ZHf A P N ops (l1++l2) e3 h3 K)->
    ZAV A P N ops y env h λe h=>ZCQ A ops e h S/\ZHf A P N ops ((i,[])::l1++l2) e h K:=by
    intro hlin hk
    refine Z6 hk λe2 h2 hk=>⟨?_,?_⟩
    .obtain ⟨d,u,hd,⟨hkk,_⟩,_⟩:=ZKf hlin hk
     exact ZMX hA hd hkS hkk
    .rw [List.cons_append,ZCv]
     exact ⟨x,hx,Z6 hk λe3 h3 ⟨_,hk⟩=>⟨trivial,hk⟩⟩
   rcases hcase with hsw|⟨hr,hin,hself⟩|⟨hks,hsw⟩
   .have hlin:ZVk (cls A P x)=true:=by
     cases hc:cls A P x<;>rw [hc] at hsw<;>first|rfl|cases hsw
    have hk':=Z6 (ZHv hf (λhw=>by rw [hw] at hlin; cases hlin) hk) λe1 h1 ⟨hf1,_,hk⟩=>ih S e1 h1 K hf1 rest hS (λk hk q hq=>hkeep k hk q (List.mem_cons_of_mem _ hq)) h3' hk
    exact fin hlin (swap hA hsw hap hk')
   ·have hc:cls A P x=.r:=by
     cases hc:cls A P x<;>rw [hc] at hr<;>first|rfl|cases hr
    have hin:i∈ks:=by simpa using hin
    have hk':=Z6 (ZHv hf (fun hw=>by rw [hw] at hc; cases hc) hk) fun e1 h1 ⟨hf1,_,hk⟩=>ih (i::S) e1 h1 K hf1 rest
     (λk hk=>by
       rcases List.mem_cons.1 hk with rfl|hk
       .exact hin
       .exact hS k hk)
     (λk hk q hq=>by
       rcases List.mem_cons.1 hk with rfl|hk
       .exact h3 (k,[]) q (List.Sublist.cons_cons _ (List.singleton_sublist.2 hq)) hin
       .exact hkeep k hk q (List.mem_cons_of_mem _ hq)) h3' hk
    refine fin (by rw [hc]; rfl) (ZUK hA hc hap hself (Z6 hk' λe1 h1 hk=>Z6 hk λe2 h2 ⟨hkk,hk⟩=>?_))
    have hkx:=hkk.1
    rw [hx] at hkx
    exact ⟨hkx,hkk.2,hk⟩
   .skip
    have hS0:S=[]:=by
     cases S with
     | nil=>rfl
     | cons k S=>have:=hS k (by simp); rw [hks] at this; cases this
    subst hS0
    have hgw:cls A P x=.w->x.guard=none/\ZSy x=true:=by
     intro hw
     unfold ZUy at hsw
     rw [hw] at hsw
     simp only [Bool.and_eq_true,Option.isNone_iff_eq_none] at hsw
     refine ⟨hsw.1.1,?_⟩
     have h2:=hsw.2
     split at h2
     .rename_i e _; cases e
     .exact h2
     .cases h2
    have hk':=Z6 (ZHv hf hgw hk) λe1 h1 ⟨hf1,_,hk⟩=>ih [] e1 h1 K hf1 rest (λk hk=>by cases hk) (λk hk=>by cases hk) h3' hk
    refine Z6 (ZYr hA hsw hap hf hk') λe2 h2 hk=>⟨trivial,?_⟩
    rw [List.cons_append,ZCv]
    exact ⟨x,hx,Z6 hk λe3 h3 ⟨_,hk⟩=>⟨trivial,hk⟩⟩
def ZEp (P:Program) (ops:Array Oper) (l:List Nat) (a:Act) (w:World) (K:Act->World->Prop):Prop:=
 ∀ (b:Frame) (k:List Item) (cs:List Frame),∃ a' w',K a' w'/\Steps P (lone (b.at a (.inRegion ops l::k)) cs w) (lone (b.at a' k) cs w')
theorem ZF9 {a:Act} {w:World} {K:Act->World->Prop} (hk:K a w):ZEp P ops [] a w K:=
 λ_ _ _=>⟨a,w,hk,.one step_region_end⟩
theorem ZHb {i:Nat} {l:List Nat} {a:Act} {w:World} {K:Act->World->Prop} (h:ZTY P ops i a w λa' w'=>ZEp P ops l a' w' K):ZEp P ops (i::l) a w K:=by intro b k cs;obtain ⟨a',w',h1,s1⟩:=h b l k cs;obtain ⟨a'',w'',h2,s2⟩:=h1 b k cs;exact ⟨a'',w'',h2,s1.trans s2⟩
theorem ZTY.mono {i:Nat} {a:Act} {w:World} {K K':Act->World->Prop} (hK:∀ a w,K a w->K' a w) (h:ZTY P ops i a w K):ZTY P ops i a w K':=by intro b rest k cs;obtain ⟨a',w',h1,s1⟩:=h b rest k cs;exact ⟨a',w',hK _ _ h1,s1⟩
theorem ZLH (hP:ZGa P A) {fr:Hp} {w0:World}:∀ (l:Seq) {bx:Nat→Nat} {env:Env} {a:Act} {h:Hp} {w:World} {K:Env→Hp→Prop},
 Rel A N bx env a h fr w0 w->ZHf A P N ops l env h K->ZEp P ops (l.map Prod.fst) a w (St A N fr w0 K):=by
 intro l;induction l with
 | nil=>intro bx env a h w K R hk; exact ZF9 ⟨_,_,_,R,hk⟩
 | cons y l ih=>
   intro bx env a h w K R hk;obtain ⟨i,ks⟩:=y;rw [ZCv] at hk;obtain ⟨o,ho,hk⟩:=hk;refine ZHb ((ZES hP R ho hk).mono ?_);rintro a' w' ⟨bx',env',h',R',_,hk'⟩;exact ih R' hk'
theorem ZGj {L:Seq} (hn:(L.map Prod.fst).Nodup) {i:Nat} (hi:i∈L.map Prod.fst):∃ l1 ks l2,L=l1++(i,ks)::l2/\L.filter (λp=>p.1 != i)=l1++l2:=by
 obtain ⟨⟨j,ks⟩,hq,rfl⟩:=List.mem_map.1 hi;obtain ⟨l1,l2,rfl⟩:=List.append_of_mem hq;refine ⟨l1,ks,l2,rfl,?_⟩;rw [List.map_append,List.map_cons,List.nodup_append] at hn;obtain ⟨h1,h2,h3⟩:=hn;rw [List.nodup_cons] at h2;have e1:l1.filter (λp=>p.1 != j)=l1:=List.filter_eq_self.2 λp hp=>by have:=h3 p.1 (List.mem_map.2 ⟨p,hp,rfl⟩) j (by simp);simpa using this
 have e2:l2.filter (λp=>p.1 != j)=l2:=List.filter_eq_self.2 λp hp=>by
  have:p.1≠j:=by rintro e; exact h2.1 (List.mem_map.2 ⟨p,hp,e⟩)
  simpa using this
 rw [List.filter_append,List.filter_cons];simp [e1,e2]
def NF (l:List Nat) (x y:Nat):Prop:=l.find? (λz=>Nat.beq z x||Nat.beq z y)≠some y
theorem NF.head {l:List Nat} {x y:Nat} (h:NF (y::l) x y):False:=h (by
 rw [List.find?_cons];simp)
theorem NF.tail {l:List Nat} {i x y:Nat} (h:NF (i::l) x y) (hx:i≠x) (hy:i≠y):NF l x y:=fun e=>h (by
 rw [List.find?_cons];have:(Nat.beq i x||Nat.beq i y)=false:=by
  have b1:Nat.beq i x=false:=by
   cases hb:Nat.beq i x with
   | false=>rfl
   | true=>exact absurd (Nat.eq_of_beq_eq_true hb) hx
  have b2:Nat.beq i y=false:=by
   cases hb:Nat.beq i y with
   | false=>rfl
   | true=>exact absurd (Nat.eq_of_beq_eq_true hb) hy
  rw [b1,b2];rfl
 rw [this];exact e)
theorem ZSg (hP:ZGa P A) {fr:Hp} {w0:World} {asm:List (Nat×Nat)}:∀ (fuel t:Nat) (listed:Array Bool) (rem:Seq) {bx:Nat→Nat} {env:Env} {a:Act} {h:Hp} {w:World} {K:Env→Hp→Prop},
 Rel A N bx env a h fr w0 w->ZXl A P ops asm rem->(∀ x y,asB asm x y=true->x∈rem.map Prod.fst->y∈rem.map Prod.fst->NF (Region.linearise.go .any ops fuel t listed []) x y)->listed.size=ops.size->rem.length<=fuel->
 (∀ j,j∈rem.map Prod.fst↔j<ops.size/\listed.getD j true=false)->
 (∀ i j,Dep ops i j->listed.getD j false=true->listed.getD i false=true)->
 (∀ q∈rem,∀ o,ops[q.1]?=some o->∀ e∈o.after,Region.binds .any e=true->listed.getD e.on false=true\/∃ p,p.1=e.on/\List.Sublist [p,q] rem)->
 ZHf A P N ops rem env h K->ZEp P ops (Region.linearise.go .any ops fuel t listed []) a w (St A N fr w0 K):=by
 intro fuel
 induction fuel with
 | zero=>
   intro t listed rem bx env a h w K R hok hord hsz hlen hmem hcl hed hk
   have:rem=[]:=List.eq_nil_of_length_eq_zero (by omega)
   subst this
   simp only [Region.linearise.go,List.reverse_nil]
   exact ZF9 ⟨_,_,_,R,hk⟩
 | succ fuel ih=>
   intro t listed rem bx env a h w K R hok hord hsz hlen hmem hcl hed hk
   have hord2:=hord
   simp only [Region.linearise.go] at hord2
   simp only [Region.linearise.go]
   change ZEp P ops (match (Region.ready .any ops listed)[t % (Region.ready .any ops listed).length]? with
    | some i=>Region.linearise.go .any ops fuel (t / (Region.ready .any ops listed).length) (listed.setIfInBounds i true) [i]
    | none=>[].reverse) a w (St A N fr w0 K)
   cases hi:(Region.ready .any ops listed)[t % (Region.ready .any ops listed).length]? with
   | none=>
     have hnil:Region.ready .any ops listed=[]:=by
      cases hr:Region.ready .any ops listed with
      | nil=>rfl
      | cons x xs=>
        rw [hr] at hi
        have hlt:t % (x::xs).length<(x::xs).length:=Nat.mod_lt _ (by simp)
        simp at hi
        simp at hlt
        omega
     have:rem=[]:=by
      cases rem with
      | nil=>rfl
      | cons q l=>
        exfalso
        obtain ⟨h1,h2⟩:=(hmem q.1).1 (by simp)
        have:q.1∈Region.ready .any ops listed:=by
         rw [mem_ready]
         refine ⟨h2,ops[q.1],by simp [h1],λe he hb=>?_⟩
         rcases hed q (by simp) ops[q.1] (by simp [h1]) e he hb with h|⟨p,hp,hs⟩
         .exact h
         ·exfalso
          have hnd:=hok.nd
          rw [List.map_cons,List.nodup_cons] at hnd
          cases hs with
          | cons _ hs=>
            exact hnd.1 (List.mem_map.2 ⟨q,hs.subset (by simp),rfl⟩)
          | cons_cons _ hs=>exact hnd.1 (List.mem_map.2 ⟨q,hs.subset (by simp),rfl⟩)
        rw [hnil] at this; cases this
     subst this
     exact ZF9 ⟨_,_,_,R,hk⟩
   | some i=>
     simp only []
     have hir:=List.mem_of_getElem? hi
     obtain ⟨hun,o,ho,hall⟩:=mem_ready.1 hir
     have hilt:i<ops.size:=(Array.getElem?_eq_some_iff.1 ho).1
     have him:i∈rem.map Prod.fst:=(hmem i).2 ⟨hilt,hun⟩
     obtain ⟨l1,ks,l2,hrem,hfil⟩:=ZGj hok.nd him
     rw [linearise_go_acc,List.reverse_singleton,List.singleton_append]
     refine ZHb ?_
     -- nothing ahead of i in the order must come up before it
     have hnodep:∀ p,List.Sublist [p,(i,ks)] rem→¬Dep ops p.1 i:=by
      intro p hs hd
      have hp:p.1∈rem.map Prod.fst:=List.mem_map.2 ⟨p,hs.subset (by simp),rfl⟩
      have hpu:=((hmem p.1).1 hp)
      have:listed.getD p.1 false=true:=by
       clear hs hp
       have key:∀ x y,Dep ops x y→y=i→listed.getD x false=true:=by
        intro x y hd
        induction hd with
        | edge ho' he hb=>
          rintro rfl
          rw [ho] at ho'; cases ho'
          exact hall _ he hb
        | trans h1 h2 ih1 ih2=>
          rintro rfl
          exact hcl _ _ h1 (ih2 rfl)
       exact key _ _ hd rfl
      have h3:=hpu.2
      simp only [Array.getD,hsz,hpu.1,dif_pos] at this h3
      rw [this] at h3; cases h3
     have sub1:∀ p∈l1,List.Sublist [p,(i,ks)] rem:=by
      intro p hp
      rw [hrem]
      exact List.Sublist.append (List.singleton_sublist.2 hp) (List.singleton_sublist.2 (by simp))
     have hord3:∀ x y,asB asm x y=true->x∈rem.map Prod.fst->y∈rem.map Prod.fst->NF (i::Region.linearise.go .any ops fuel (t / (Region.ready .any ops listed).length) (listed.setIfInBounds i true) []) x y:=by
      intro x y h1 h2 h3
      have h4:=hord2 x y h1 h2 h3
      change NF (match (Region.ready .any ops listed)[t % (Region.ready .any ops listed).length]? with
       | some i=>Region.linearise.go .any ops fuel (t / (Region.ready .any ops listed).length) (listed.setIfInBounds i true) [i]
       | none=>[].reverse) x y at h4
      rw [hi] at h4
      dsimp only at h4
      rw [linearise_go_acc,List.reverse_singleton,List.singleton_append] at h4
      exact h4
     have hb:=ZYt (N:=N) hP.good (j:=i) (ks:=ks) ho (l2:=l2) l1 [] env h K (Hp.fin_le R.hle)
      (fun p hp=>((hok.pair2 p (i,ks) (sub1 p hp)).resolve_left (hnodep p (sub1 p hp))).resolve_right fun has=>by
        have hpm:p.1∈rem.map Prod.fst:=List.mem_map.2 ⟨p,(sub1 p hp).subset (by simp),rfl⟩
        rcases has with has|⟨k,hd,has⟩
        .exact (hord3 _ _ has hpm him).head
        ·have hku:listed.getD k false=false:=by
             cases hlk:listed.getD k false with
             | false=>rfl
             | true=>
               have h1:=hcl _ _ hd hlk
               have h2:=(hmem p.1).1 hpm
               have h3:=h2.2
               simp only [Array.getD,hsz,h2.1,dif_pos] at h1 h3
               rw [h1] at h3; cases h3
         have hks:=hd.lt
         have hkm:k∈rem.map Prod.fst:=(hmem k).2 ⟨hks,by
             have h4:=hku
             simp only [Array.getD,hsz,hks,dif_pos] at h4 ⊢
             exact h4⟩
         exact (hord3 _ _ has hkm him).head) (λk hk=>by cases hk) (λk hk=>by cases hk)
      (fun p q hs hk=>by
        have hs3:List.Sublist [p,q,(i,ks)] rem:=by
         rw [hrem]; exact List.Sublist.append hs (List.singleton_sublist.2 (by simp))
        refine (hok.pair3 p q (i,ks) hs3 hk).resolve_right (hnodep q (sub1 q (hs.subset (by simp)))))
      (by rw [<-hrem]; exact hk)
     refine (ZES hP R ho hb).mono ?_
     rintro a' w' ⟨bx',env',h',R',_,hk'⟩
     rw [<-hfil] at hk'
     have hsub:List.Sublist (rem.filter λp=>p.1 != i) rem:=List.filter_sublist
     refine ih _ _ (rem.filter λp=>p.1 != i) R' ⟨?_,?_,?_⟩ (λx y h1 h2 h3=>?_) (by simpa using hsz) ?_ ?_ ?_ ?_ hk'
     .exact hok.nd.sublist (hsub.map _)
     .exact λp q hs=>hok.pair2 p q (hs.trans hsub)
     .exact λp q r hs=>hok.pair3 p q r (hs.trans hsub)
     .obtain ⟨q2,hq2,rfl⟩:=List.mem_map.1 h2
      obtain ⟨q3,hq3,rfl⟩:=List.mem_map.1 h3
      have m2:=List.mem_filter.1 hq2
      have m3:=List.mem_filter.1 hq3
      exact (hord3 _ _ h1 (List.mem_map.2 ⟨q2,m2.1,rfl⟩) (List.mem_map.2 ⟨q3,m3.1,rfl⟩)).tail (λe=>by have:=m2.2; simp [e] at this) (λe=>by have:=m3.2; simp [e] at this)
     .rw [hfil]
      have:=congrArg List.length hrem
      simp at this ⊢; omega
     ·intro j
      constructor
      .intro hj
       obtain ⟨q,hq,rfl⟩:=List.mem_map.1 hj
       obtain ⟨hq1,hq2⟩:=List.mem_filter.1 hq
       have hne:q.1≠i:=by simpa using hq2
       have:=(hmem q.1).1 (List.mem_map.2 ⟨q,hq1,rfl⟩)
       exact ⟨this.1,by rw [getD_set_ne true (Ne.symm hne)]; exact this.2⟩
      .rintro ⟨h1,h2⟩
       have hne:j≠i:=by
        rintro rfl
        have hlt:j<listed.size:=by rw [hsz]; exact h1
        simp [hlt] at h2
       rw [getD_set_ne true (Ne.symm hne)] at h2
       obtain ⟨q,hq,rfl⟩:=List.mem_map.1 ((hmem j).2 ⟨h1,h2⟩)
       exact List.mem_map.2 ⟨q,List.mem_filter.2 ⟨hq,by simpa using hne⟩,rfl⟩
     ·intro x y hd hy
      by_cases e:y=i
      ·subst e
       apply getD_set_true
       have key:∀ x z,Dep ops x z→z=y→listed.getD x false=true:=by
        intro x z hd
        induction hd with
        | edge ho' he hb=>
          rintro rfl
          rw [ho] at ho'; cases ho'
          exact hall _ he hb
        | trans h1 h2 ih1 ih2=>
          rintro rfl
          exact hcl _ _ h1 (ih2 rfl)
       exact key _ _ hd rfl
      .rw [getD_set_ne false (Ne.symm e)] at hy
       exact getD_set_true (hcl _ _ hd hy)
     ·intro q hq o' ho' e he hb'
      obtain ⟨hq1,hq2⟩:=List.mem_filter.1 hq
      rcases hed q hq1 o' ho' e he hb' with h|⟨p,hp,hs⟩
      .exact .inl (getD_set_true h)
      .by_cases hpi:p.1=i
       .left
        rw [<-hp,hpi]
        have hlt:i<listed.size:=by rw [hsz]; exact hilt
        simp [hlt]
       .right
        refine ⟨p,hp,?_⟩
        have:=hs.filter (λp=>p.1 != i)
        have hq2':(q.1 != i)=true:=hq2
        have hp2':(p.1 != i)=true:=by simpa using hpi
        rw [List.filter_cons,if_pos hp2',List.filter_cons,if_pos hq2'] at this
        exact this
theorem ZS7:∀ (n:Nat) (l:List Nat),l.Nodup→(∀ x∈l,x<n)→l.length≤n:=by
 intro n;induction n with
 | zero=>
   intro l _ h;cases l with
   | nil=>simp
   | cons x l=>have:=h x (by simp); omega
 | succ n ih=>
   intro l hn h;by_cases hm:n∈l
   .have:=ih (l.erase n) (hn.erase n) (λx hx=>by
     have h1:=h x (List.mem_of_mem_erase hx);have h2:x≠n:=by rintro rfl; exact (List.Nodup.not_mem_erase hn) hx
     omega)
    rw [List.length_erase_of_mem hm] at this;omega
   .have:=ih l hn (λx hx=>by
     have h1:=h x hx;have h2:x≠n:=by rintro rfl; exact hm hx
     omega)
    omega
theorem ZHy (hP:ZGa P A) {fr:Hp} {w0:World} {asm:List (Nat×Nat)} {seq:Seq} (hc:ZGv A P ops asm seq=true) {bx:Nat→Nat} {env:Env} {a:Act} {h:Hp} {w:World} {K:Env→Hp→Prop}
 (R:Rel A N bx env a h fr w0 w) (hk:ZHf A P N ops seq env h K) (t:Nat) (hord:∀ x y,asB asm x y=true->NF (Region.linearise .any ops t) x y):ZEp P ops (Region.linearise .any ops t) a w (St A N fr w0 K):=by
 simp only [ZGv,Bool.and_eq_true,ZFb] at hc;obtain ⟨hlen,hchk⟩:=hc;have hdep:=ZVe (ops:=ops) ops.toList [] (λk o hk=>by simpa using hk) (λj i hi=>by simp at hi);obtain ⟨h1,h2,h3⟩:=ZMz (A:=A) (P:=P) (ops:=ops) hdep seq [] hchk ⟨by simp,λp q hs=>(by cases hs),λp q r hs=>(by cases hs)⟩ (λq hq=>by cases hq) (λq hq=>by cases hq);simp only [List.nil_append] at h1 h2 h3;have hfull:∀ j,j<ops.size->j∈seq.map Prod.fst:=by
  intro j hj;apply Classical.byContradiction;intro hn;have hsub:(j::seq.map Prod.fst).Nodup:=List.nodup_cons.2 ⟨hn,h1.nd⟩;have:=ZS7 ops.size (j::seq.map Prod.fst) hsub (λx hx=>by
   rcases List.mem_cons.1 hx with rfl|hx
   .exact hj
   .obtain ⟨q,hq,rfl⟩:=List.mem_map.1 hx; exact h2 q hq)
  simp at this; omega
 refine ZSg hP ops.size t _ seq R h1 (λx y h _ _=>hord x y h) (by simp) (by omega) ?_ ?_ ?_ hk
 .intro j;constructor
  .intro hj;obtain ⟨q,hq,rfl⟩:=List.mem_map.1 hj;have:=h2 q hq;exact ⟨this,by simp [this]⟩
  .rintro ⟨hj,_⟩; exact hfull j hj
 .intro i j _ hj;exfalso;by_cases hlt:j<ops.size<;>simp [hlt] at hj
 .intro q hq o ho e he hb;exact .inr (h3 q hq o ho e he hb)
theorem ZOm (hP:ZGa P A) {fr:Hp} {w0:World} {seq:Seq} (hc:ZG8 A P ops seq=true) {bx:Nat->Nat} {env:Env} {a:Act} {h:Hp} {w:World} {K:Env->Hp->Prop}
 (R:Rel A N bx env a h fr w0 w) (hk:ZHf A P N ops seq env h K) (t:Nat):ZEp P ops (Region.linearise .any ops t) a w (St A N fr w0 K):=
 ZHy hP hc R hk t λx y h=>by cases h
inductive RT where
 | leaf (s:Seq)
 | node (x y:Nat) (a b:RT)
def ZVt (A:Ann) (P:Program) (N:Nat) (ops:Array Oper):RT->Env->Hp->(Env->Hp->Prop)->Prop
 | .leaf s,env,h,K=>ZHf A P N ops s env h K
 | .node _ _ a b,env,h,K=>ZVt A P N ops a env h K/\ZVt A P N ops b env h K
def ZGd (A:Ann) (P:Program) (ops:Array Oper):List (Nat×Nat)->RT->Bool
 | asm,.leaf s=>ZGv A P ops asm s
 | asm,.node x y a b=>!Nat.beq x y&&(ZGd A P ops ((x,y)::asm) a&&ZGd A P ops ((y,x)::asm) b)
theorem ZHM:∀ {tr:RT} {env:Env} {h:Hp} {K K':Env->Hp->Prop},(∀ e h,K e h->K' e h)->ZVt A P N ops tr env h K->ZVt A P N ops tr env h K'
 | .leaf _,_,_,_,_,hK,hk=>ZFZ hK hk
 | .node _ _ _ _,_,_,_,_,hK,hk=>⟨ZHM hK hk.1,ZHM hK hk.2⟩
theorem ZF3 (hP:ZGa P A) {fr:Hp} {w0:World} {bx:Nat→Nat} {env:Env} {a:Act} {h:Hp} {w:World} {K:Env→Hp→Prop} (R:Rel A N bx env a h fr w0 w) (t:Nat):∀ (tr:RT) (asm:List (Nat×Nat)),
 ZGd A P ops asm tr=true->(∀ x y,asB asm x y=true->NF (Region.linearise .any ops t) x y)->ZVt A P N ops tr env h K->ZEp P ops (Region.linearise .any ops t) a w (St A N fr w0 K)
 | .leaf s,asm,hc,hord,hk=>ZHy hP hc R hk t hord
 | .node x y l r,asm,hc,hord,hk=>by
   simp only [ZGd,Bool.and_eq_true] at hc;obtain ⟨hne,h1,h2⟩:=hc;have hne:x≠y:=by rintro rfl; simp at hne
   by_cases e:(Region.linearise .any ops t).find? (λz=>Nat.beq z x||Nat.beq z y)=some y
   .refine ZF3 hP R t r _ h2 (λu v huv=>?_) hk.2;simp only [asB,List.any_cons,Bool.or_eq_true,Bool.and_eq_true] at huv;rcases huv with ⟨e1,e2⟩|huv
    .have e1:y=u:=Nat.eq_of_beq_eq_true e1;have e2:x=v:=Nat.eq_of_beq_eq_true e2;subst e1; subst e2;intro e3;have hf:(λz=>Nat.beq z y||Nat.beq z x)=λz=>Nat.beq z x||Nat.beq z y:=by funext z; rw [Bool.or_comm]
     rw [hf,e] at e3;exact hne (Option.some.inj e3).symm
    .exact hord u v huv
   .refine ZF3 hP R t l _ h1 (λu v huv=>?_) hk.1;simp only [asB,List.any_cons,Bool.or_eq_true,Bool.and_eq_true] at huv;rcases huv with ⟨e1,e2⟩|huv
    .have e1:x=u:=Nat.eq_of_beq_eq_true e1;have e2:y=v:=Nat.eq_of_beq_eq_true e2;subst e1; subst e2;exact e
    .exact hord u v huv
end
end Go.Eng
