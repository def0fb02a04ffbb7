/- Made by program: of our texts what this law needs (Eng.A Eng.B Eng.C Eng.D Eng.E Eng.F Eng.G Eng.H Eng.I Eng.J Eng.K Eng.L Eng.M Eng.N Eng.NA Eng.O). -/
import Derived.Calls
import Derived.Recover
import Derived.Laws.Sem
import Derived.Laws.World
import Derived.Laws.Cells
import Derived.Laws.StructEq
import Derived.Laws.Slices
import Derived.Laws.MakeOwn
import Derived.Laws.BytesString
import Derived.Conc.LoneSelect
import Derived.Orders
set_option linter.unusedVariables false
namespace Go.Eng
abbrev Xc:=@Nat.le_refl
abbrev Xd:=@if_neg
abbrev Xe:=@if_pos
abbrev Xf:=@Bool.and_eq_true
abbrev Xg:=@List.length_append
abbrev Xi:=@List.getElem?_eq_some_iff
abbrev Xk:=@List.length_take
abbrev Xl:=@List.mem_singleton
abbrev Xm:=@List.mem_cons
abbrev Xn:=@List.mem_of_getElem?
abbrev Xp:=@List.length_set
abbrev Xq:=@List.mem_cons_of_mem
abbrev Xr:=@Nat.mul_le_mul_right
abbrev Xu:=@List.append_assoc
abbrev Xx:=@List.mem_append
abbrev XC:=@List.Sublist.cons_cons
abbrev XG:=@Nat.le_trans
abbrev XI:=@List.length_cons
abbrev XJ:=@List.getElem?_append_right
abbrev XL:=@cond_true
abbrev XP:=@List.getElem?_eq_none
abbrev XR:=@List.getElem?_append_left
abbrev XS:=@List.map_cons
abbrev XT:=@Option.some.injEq
abbrev XV:=@List.nil_append
abbrev XX:=@List.length_replicate
abbrev Wa:=@List.mem_map
abbrev Wb:=@Bool.false_eq_true
abbrev Wc:=@decide_eq_false_iff_not
abbrev Wf:=@Bool.or_eq_true
abbrev Wh:=@List.filter_cons
abbrev Wi:=@Nat.le_of_ble_eq_true
abbrev Wk:=@List.mem_filter
abbrev Wl:=@List.append_nil
abbrev Wn:=@List.all_eq_true
abbrev Wo:=@List.map_append
abbrev Wq:=@Bool.true_and
abbrev Wr:=@List.getElem?_drop
abbrev Wu:=@Nat.testBit_or
abbrev Wv:=@Nat.eq_of_beq_eq_true
abbrev Ww:=@of_decide_eq_true
abbrev Wx:=@Nat.add_mul
abbrev WB:=@Nat.lt_or_ge
abbrev WC:=@List.any_eq_true
abbrev WE:=@List.filter_append
abbrev WJ:=@List.length_eq_zero_iff
abbrev WK:=@List.eq_nil_of_length_eq_zero
abbrev WM:=@Array.ext'
abbrev WR:=@if_false
abbrev WT:=@List.singleton_sublist
abbrev Yb:=@List.getD_eq_getElem?_getD
abbrev Yc:=@Array.getElem?_eq_some_iff
abbrev Yd:=@List.length_nil
abbrev Yf:=@List.getElem?_map
abbrev Yh:=@List.getElem?_cons_succ
abbrev Ym:=@Bool.not_eq_true'
abbrev Yn:=@Array.length_toList
abbrev Yp:=@if_true
abbrev Yt:=@Array.getElem?_modify
abbrev Yu:=@cond_false
abbrev Yx:=@List.flatMap_cons
abbrev Yy:=@List.Sublist.refl
abbrev Yz:=@Nat.sub_zero
abbrev YB:=@List.map_nil
abbrev YC:=@Array.getElem?_eq_none
abbrev YG:=@Option.isNone_iff_eq_none
abbrev YN:=@List.filter_sublist
abbrev YO:=@Nat.mod_eq_of_lt
abbrev YV:=@Option.some.inj
abbrev YX:=@List.ext_getElem?
abbrev Va:=@List.cons_append
abbrev Vf:=@Array.getElem?_push
abbrev Vg:=@Option.isSome_iff_exists
abbrev Vh:=@Nat.mul_assoc
abbrev Vk:=@List.nodup_cons
abbrev Vn:=@Option.isNone_some
abbrev Vp:=@Nat.zero_add
abbrev Vq:=@Nat.add_zero
abbrev Vs:=@Nat.one_mul
abbrev Vv:=@List.filter_eq_self
abbrev Vz:=@Nat.mod_eq_sub_mod
abbrev VC:=@Classical.byContradiction
abbrev VD:=@List.nodup_append
abbrev VE:=@Nat.le_mul_of_pos_right
abbrev VM:=@Nat.mod_lt
abbrev VN:=@Nat.add_comm
abbrev VR:=@Nat.one_ne_zero
abbrev VX:=@List.mapM_cons
abbrev VZ:=@List.contains_eq_mem
abbrev Ud:=@List.replicate_succ
abbrev Uf:=@List.Sublist.append
abbrev Ug:=@Bool.and_self
abbrev Uh:=@Nat.pos_of_ne_zero
abbrev Ui:=@Nat.add_sub_cancel
variable {a ad:Addr}{b N off d s i n len cap j sz bytes cap':Nat}{P:Program}{f:FuncId}{args:Array Value}{w w0 w':World}{v z y zv:Value}{o:Oper}{x ox oy:Operand}{bx:Nat->Nat}{t e ty:TypeId}{cs cs' xs zs:List Value}{fz:Nat×Nat}{l bef ks:List Nat}{r isS:Bool}{op:BinOp}{kl kh km kk:IntKind}{lo hi:Option Int}{m:Int}{ats:Array TypeId}{p q:Option Addr}{o':Obj}{ops:Array Oper}{a':Act}{ccs:Array CommCase}{C:Prop}{X:Type}{asm:List (Nat×Nat)}
def ZGZ:Value->Bool
 | .agg _|.tuple _=>false
 | _=>true
abbrev Hp:=Nat->Option Obj
def Hp.le(h:Hp)(w:World):Prop:=∀ b o,h b=some o->w.heap[b]?=some o
def Hp.dj(h g:Hp):Prop:=∀ b,h b=none\/g b=none
def Hp.emp:Hp:=λ_=>none
def Hp.un(h g:Hp):Hp:=λb=>match h b with|some o=>some o|none=>g b
def Hp.one(b:Nat)(o:Obj):Hp:=λb'=>if b'=b then some o else none
def Hp.upd(h:Hp)(b:Nat)(o:Obj):Hp:=λb'=>if b'=b then some o else h b'
structure ZGj (w w':World):Prop where
 os:w'.os=w.os
 tape:w'.tape=w.tape
 output:w'.output=w.output
theorem ZGj.refl(w:World):ZGj w w:=⟨rfl,rfl,rfl⟩
theorem ZGj.trans{a b c:World}(h:ZGj a b)(k:ZGj b c):ZGj a c:=⟨k.os.trans h.os,k.tape.trans h.tape,k.output.trans h.output⟩
def ZHn(P:Program)(f:FuncId)(args:Array Value)(h:Hp)(R:Value->Hp->Prop):Prop:=
 ∀ (w:World) (fr:Hp),h.le w->fr.le w->h.dj fr->
  Calls P f args w λe w'=>∃ v h',e=.returned v/\R v h'/\h'.le w'/\fr.le w'/\h'.dj fr/\ZGj w w'
def ZTZ(P:Program)(f:FuncId)(args:Array Value)(h:Hp)(R S:Value->Hp->Prop):Prop:=
 ∀ (w:World) (fr:Hp),h.le w->fr.le w->h.dj fr->
  Calls P f args w λe w'=>∃ v h',((e=.returned v/\R v h')\/(e=.panicked [{v,recovered:=false}]/\S v h'))/\h'.le w'/\fr.le w'/\h'.dj fr/\ZGj w w'
def ZZQ(P:Program)(f:FuncId)(args:Array Value)(u u':FrameMode)(h:Hp)(R:Hp->Prop):Prop:=
 ∀ (w:World) (fr:Hp),h.le w->fr.le w->h.dj fr->
  CallsD P f args u w λe u2 w'=>∃ v h',e=.returned v/\u2=u'/\R h'/\h'.le w'/\fr.le w'/\h'.dj fr/\ZGj w w'
variable {h:Hp}{R R':Value->Hp->Prop}
theorem ZHn.mono(s:ZHn P f args h R)(E:∀ v h',R v h'->R' v h'):ZHn P f args h R':=λw fr a b c=>
 (s w fr a b c).mono λ_ _ ⟨v,h',D,B,rest⟩=>⟨v,h',D,E _ _ B,rest⟩
variable {g:Hp}
theorem Hp.dj_symm(d:h.dj g):g.dj h:=λb=>(d b).symm
theorem Hp.un_le(a:h.le w)(b:g.le w):(h.un g).le w:=by
 intro k o B;unfold Hp.un at B;split at B
 .rename_i o' e;cases B;exact a k _ e
 .exact b k o B
variable {fr:Hp}
theorem Hp.un_dj(a:h.dj fr)(b:g.dj fr):(h.un g).dj fr:=by
 intro k;rcases a k with e|e
 .rcases b k with e'|e'
  .left;simp[Hp.un,e,e']
  .right;exact e'
 .right;exact e
theorem Hp.dj_un(a:h.dj g)(b:h.dj fr):h.dj (g.un fr):=Hp.dj_symm (Hp.un_dj (Hp.dj_symm a) (Hp.dj_symm b))
theorem Hp.le_un_left(a:(h.un g).le w):h.le w:=by intro k o B;exact a k o (by simp[Hp.un,B])
theorem Hp.le_un_right(d:h.dj g)(a:(h.un g).le w):g.le w:=by
 intro k o B;rcases d k with e|e
 .exact a k o (by simp[Hp.un,e,B])
 .rw [B]at e;cases e
theorem Hp.dj_un_left(a:(h.un g).dj fr):h.dj fr:=by
 intro k;rcases a k with e|e
 .left;unfold Hp.un at e;split at e
  .cases e
  .assumption
 .exact .inr e
theorem Hp.dj_un_right(a:(h.un g).dj fr):g.dj fr:=by
 intro k;rcases a k with e|e
 .left;unfold Hp.un at e;split at e
  .cases e
  .exact e
 .exact .inr e
@[simp] theorem Hp.emp_un (h:Hp):Hp.emp.un h=h:=rfl
@[simp] theorem Hp.un_emp (h:Hp):h.un Hp.emp=h:=by funext b;unfold Hp.un Hp.emp;cases h b<;>rfl
theorem ZHn.frame(s:ZHn P f args h R)(d:h.dj g):
 ZHn P f args (h.un g) λv h'=>∃ h₁,R v h₁/\h'=h₁.un g/\h₁.dj g:=by
 intro w fr E D dj;refine(s w (g.un fr) (Hp.le_un_left E) (Hp.un_le (Hp.le_un_right d E) D) (Hp.dj_un d (Hp.dj_un_left dj))).mono ?_;rintro e w' ⟨v,h',I,H,a,b,c,M⟩;have B:g.dj fr:=Hp.dj_un_right dj;have c1:h'.dj g:=Hp.dj_symm (Hp.dj_un_left (Hp.dj_symm c));have c2:h'.dj fr:=Hp.dj_symm (Hp.dj_un_right (Hp.dj_symm c));exact⟨v,h'.un g,I,⟨h',H,rfl,c1⟩,Hp.un_le a (Hp.le_un_left b),Hp.le_un_right B b,Hp.un_dj c2 B,M⟩
theorem Hp.upd_le(a:h.le w)(o:Obj):(h.upd w.heap.size o).le (w.alloc o):=by
 intro k o' B;unfold Hp.upd at B;split at B
 .rename_i e;subst e;cases B;show (w.heap.push o)[w.heap.size]?=_;simp
 .rename_i e;have:=a k o' B;rw[World.alloc];show (w.heap.push o)[k]?=_;rw[Vf,Xd (by omega)];exact this
theorem Hp.le_lt(a:h.le w){k:Nat}(B:w.heap.size<=k):h k=none:=by
 cases e:h k with
 | none=>rfl
 | some o=>have:=a k o e;rw[YC B]at this;cases this
theorem Hp.le_alloc(a:h.le w)(o:Obj):h.le (w.alloc o):=by
 intro k o' D;have B:=a k o' D;have:k<w.heap.size:=by
  rcases WB k w.heap.size with h'|h'
  .exact h'
  .rw [YC h']at B;cases B
 rw[World.alloc];show (w.heap.push o)[k]?=_;rw[Vf,Xd (by omega)];exact B
theorem Hp.upd_dj(d:h.dj fr)(B:fr b=none)(o:Obj):(h.upd b o).dj fr:=by
 intro k;by_cases e:k=b
 .subst e;exact .inr B
 .simp only[Hp.upd,Xd e];exact d k
def Hp.cell? (h:Hp) (a:Addr):Option Value:=
 match h a.block with
 | some (.cells c _ _)=>if a.spot.isSome then none else c[a.off]?
 | _=>none
def Hp.frozen? (h:Hp) (a:Addr):Bool:=
 match h a.block with
 | some (.cells _ _ (lo,hi))=>lo<=a.off&&a.off<hi
 | _=>false
def ZOi(a:Addr)(v:Value):Obj->Obj
 | .cells c e fz=>.cells (if a.spot.isSome then c else c.setIfInBounds a.off v) e fz
 | o=>o
def Hp.setCell(h:Hp)(a:Addr)(v:Value):Hp:=λb=>if b=a.block then (h b).map (ZOi a v) else h b
theorem Hp.cell?_le {h:Hp} {w:World} (l:h.le w) {a:Addr} {v:Value} (e:h.cell? a=some v):w.cell? a=some v:=by
 unfold Hp.cell? at e;unfold World.cell?;cases B:h a.block with
 | none=>rw[B]at e;cases e
 | some o=>rw[B]at e;rw[l _ _ B];exact e
theorem Hp.frozen?_le {h:Hp} {w:World} (l:h.le w) {a:Addr} {v:Value} (e:h.cell? a=some v):w.frozen? a=h.frozen? a:=by
 unfold Hp.cell? at e;unfold World.frozen? Hp.frozen?;cases B:h a.block with
 | none=>rw[B]at e;cases e
 | some o=>rw[l _ _ B];cases o<;>rfl
theorem World.heap_setCell(w:World)(a:Addr)(v:Value)(k:Nat):(w.setCell a v).heap[k]?=if k=a.block then (w.heap[k]?).map (ZOi a v) else w.heap[k]?:=by
 simp only[World.setCell,Yt];by_cases e:a.block=k
 .subst e;simp only[Yp];cases w.heap[a.block]? with
  | none=>rfl
  | some o=>cases o<;>rfl
 .rw [Xd e,Xd (by omega)]
theorem Hp.setCell_le(l:h.le w)(a:Addr)(v:Value):(h.setCell a v).le (w.setCell a v):=by
 intro k o B;rw[World.heap_setCell];unfold Hp.setCell at B;split at B
 .rename_i e;rw[Xe e];cases D:h k with
  | none=>rw[D]at B;cases B
  | some o'=>rw[D]at B;rw[l _ _ D];exact B
 .rename_i e;rw[Xd e];exact l _ _ B
theorem Hp.setCell_none:(h.setCell a v) b=none↔h b=none:=by unfold Hp.setCell;split<;>simp
theorem Hp.cell_block(e:h.cell? a=some v):h a.block≠none:=by unfold Hp.cell? at e;intro B;rw[B]at e;cases e
def Hp.rds(h:Hp)(a:Addr)(cs:List Value):Prop:=∀ i v,cs[i]?=some v->h.cell? (a.add i)=some v
def Hp.wrs(h:Hp)(a:Addr):Nat->List Value->Hp
 | _,[]=>h
 | i,v::l=>(h.setCell (a.add i) v).wrs a (i+1) l
structure Cdc:Type 1 where
 T:Type
 enc:T->Value
 dec:Value->Option T
 agg:Bool
 n:Nat
 law:∀ v x,dec v=some x->enc x=v
 ecd:∀ x,dec (enc x)=some x
 mem:Bool
 form:mem=true->∀ x,if agg then ∃ cs:List Value,enc x=.agg cs.toArray/\cs.length=n/\∀ c∈cs,ZGZ c=true else ZGZ (enc x)=true/\n=1
inductive EV where
 | val (v:Value)
 | box (cs:List Value)
 | ref (off:Nat)
 | unk
abbrev Env:=Nat->EV
structure Ann:Type 1 where
 prom:Nat:=0
 refs:List (Nat×Nat):=[]
 dyn:Nat:=0
 bcd:Nat->Option Cdc:=λ_=>none
 eqs:TypeId->Bool:=λ_=>false
 cdc:TypeId->Option Cdc
 res:FuncId->Option Cdc
 pure:FuncId->Bool:=λ_=>false
 pan:FuncId->Bool:=λ_=>false
 defs:List Deferred:=[]
 fnv:Nat->Option Cdc:=λ_=>none
def ZKE:List (Nat×Nat)->Nat->Option Nat
 | [],_=>none
 | (s,t)::l,k=>bif Nat.beq k s then some t else ZKE l k
def Ann.refOf(A:Ann)(s:Nat):Option Nat:=ZKE A.refs s
def Ann.isProm(A:Ann)(s:Nat):Bool:=A.prom.testBit s
def Ann.isLocal(A:Ann)(s:Nat):Bool:=A.isProm s||(A.refOf s).isSome
def ZAg:Option Nat->Nat->Bool
 | some a,b=>Nat.beq a b
 | none,_=>false
def put(A:Ann)(env:Env)(dst:Option Tmp)(e:EV):Env:=
 match dst with
 | none=>env
 | some d=>λs=>bif Nat.beq s d then e else bif A.isProm d&&ZAg (A.refOf s) d then .unk else env s
inductive LV where
 | v (x:Value)
 | r (t off:Nat) (cs:List Value)
 | no
def ZTL(t off:Nat):EV->LV
 | .box cs=>.r t off cs
 | _=>.no
def look(A:Ann)(env:Env):Operand->LV
 | .tmp t=>match env t with
   | .val v=>.v v
   | .box cs=>.r t 0 cs
   | .ref off=>match A.refOf t with
     | some t'=>bif A.isProm t' then ZTL t' off (env t') else .no
     | none=>.no
   | .unk=>.no
 | .const v=>.v v
 | .func f=>.v (.func (.func f) #[] #[])
 | .global _=>.no
abbrev ZB(b:Bool)(X Y:Prop):Prop:=cond b X Y
def ZM(p:Option Addr)(K:Addr->Prop):Prop:=
 match p with
 | some a=>K a
 | none=>False
def Zb(a:Option Addr)(len:Nat)(i:Int)(K:Addr->Prop):Prop:=0<=i/\i<len/\ZM a K
def atP(len:Nat)(i:Int)(K:Prop):Prop:=0<=i/\i<len/\K
def ZC(c:Cdc)(a:Addr)(h:Hp)(K:c.T->Prop):Prop:=∃ x,h.rds a (c.enc x).cells.toList/\K x
def Hp.may(h:Hp)(a:Addr)(n:Nat):Prop:=∀ i,i<n->(∃ v,h.cell? (a.add i)=some v)/\h.frozen? (a.add i)=false
def ZS(c:Cdc)(a:Addr)(x:c.T)(h:Hp)(K:Hp->Prop):Prop:=h.may a c.n/\K (h.wrs a 0 (c.enc x).cells.toList)
def ZJ(o:Obj)(h:Hp)(K:Nat->Hp->Prop):Prop:=∀ b,h b=none->K b (h.upd b o)
def ZA(P:Program)(f:FuncId)(args:List Value)(c:Cdc)(h:Hp)(K:c.T->Hp->Prop):Prop:=
 ZHn P f args.toArray h λv h'=>∃ x,v=c.enc x/\K x h'
def ZE5(P:Program)(f:FuncId)(args:List Value)(c:Cdc)(h:Hp)(K:c.T->Hp->Prop)(S:Value->Hp->Prop):Prop:=
 ZTZ P f args.toArray h (λv h'=>∃ x,v=c.enc x/\K x h') S
def ZB0(P:Program)(f:FuncId)(args:List Value)(v:Option Value)(h:Hp)(K:Hp->Prop):Prop:=
 match v with
 | none=>ZZQ P f args.toArray .returning .returning h K
 | some v=>ZZQ P f args.toArray (.panicking [{v,recovered:=false}]) (.panicking [{v,recovered:=true}]) h K
def ZTn(P:Program)(f:FuncId)(args:List Value)(c:Cdc)(K:c.T->Prop):Prop:=
 ∃ x,ZHn P f args.toArray Hp.emp (λv h'=>v=c.enc x/\h'=Hp.emp)/\K x
def Zcm(lo:Option Int)(h:Nat):Option Nat->Prop
 | some l=>match lo with
   | some i=>0<=i/\i<=h/\l=i.toNat
   | none=>l=0
 | none=>False
def Z3(len cap:Nat)(lo hi:Option Int)(K:Nat->Nat->Prop):Prop:=
 match hi,lo with
 | some j,some i=>0<=i/\i<=j/\j<=cap/\K i.toNat j.toNat
 | some j,none=>0<=j/\j<=cap/\K 0 j.toNat
 | none,some i=>0<=i/\i<=len/\K i.toNat len
 | none,none=>K 0 len
def ZIp(cap:Nat)(lo:Option Int)(hi mx:Int)(K:Nat->Nat->Nat->Prop):Prop:=
 mx<=cap/\hi<=mx/\0<=hi/\match lo with
 | some i=>0<=i/\i<=hi/\K i.toNat hi.toNat mx.toNat
 | none=>K 0 hi.toNat mx.toNat
def ZBe(P:Program)(g:FuncId)(first captured:Array Value)(l:List Value)(c:Cdc)(h:Hp)(K:c.T->Hp->Prop):Prop:=
 (∃ fn body,P.funcs[g]?=some fn/\fn.body=some body)/\ZA P g (first.toList++(l++captured.toList)) c h K
def ZNI(c:Cdc)(k:IntKind)(l:List (Int×c.T×Nat))(clock:Nat):Obj:=.map (l.map λe=>{key:=.int k e.1,val:=c.enc e.2.1,born:=e.2.2}).toArray clock
def ZQr{c:Cdc}(z:c.T)(n:Int):List (Int×c.T×Nat)->c.T
 | []=>z
 | e::l=>if n=e.1 then e.2.1 else ZQr z n l
def ZW7(c:Cdc)(k:IntKind)(m:Option Nat)(n:Int)(z:c.T)(h:Hp)(K:c.T->Prop):Prop:=
 ∃ r l clock,m=some r/\h r=some (ZNI c k l clock)/\K (ZQr z n l)
def ZZt(c:Cdc)(k:IntKind)(m:Option Nat)(n:Int)(v:c.T)(h:Hp)(K:Hp->Prop):Prop:=
 ∃ r l clock,m=some r/\h r=some (ZNI c k l clock)/\(∀ e∈l,n≠e.1)/\K (h.upd r (ZNI c k (l++[(n,v,clock)]) (clock+1)))
def ZN7(P:Program)(g:FuncId)(args:List Value)(c:Cdc)(h:Hp)(K:c.T->Prop):Prop:=
 ∃ x,(∀ w,h.le w->(callFunc g args.toArray).run P w=.ok (.value (c.enc x)) w)/\K x
def Za9(A:Ann):Operand->Option Cdc
 | .tmp t=>A.fnv t
 | _=>none
def ZJU:List Value->Bool
 | []=>true
 | v::l=>ZGZ v&&ZJU l
def ZE9(cs:List Value)(off:Nat)(vs:List Value):List Value:=cs.take off++(vs++cs.drop (off+vs.length))
def ZCe(k:IntKind)(x y:Int):Int:=k.wrap ((BitVec.ofInt k.bits x &&& BitVec.ofInt k.bits y).toNat:Int)
def orI(k:IntKind)(x y:Int):Int:=k.wrap ((BitVec.ofInt k.bits x ||| BitVec.ofInt k.bits y).toNat:Int)
def ZQb(k:IntKind)(x y:Int):Int:=k.wrap ((BitVec.ofInt k.bits x ^^^ BitVec.ofInt k.bits y).toNat:Int)
def ZFR(k:IntKind)(x y:Int):Int:=k.wrap ((BitVec.ofInt k.bits x &&& ~~~BitVec.ofInt k.bits y).toNat:Int)
def ZMa(k:IntKind)(x y:Int):Int:=k.wrap (x*2 ^ (min y.toNat k.bits))
def ZBK(k:IntKind)(x y:Int):Int:=x.fdiv (2 ^ (min y.toNat k.bits))
def ZY1(k:IntKind)(x y:Int):Int:=k.wrap (x.tdiv y)
def ZGd(x y:Int):Int:=if y<x then y else x
def ZQq(x y:Int):Int:=if y>x then y else x
def Zh(a:Option Addr)(l m size:Nat):Option Addr:=if m=l then a else a.map (·.add (l*size))
def ZK8(x y:ByteArray):Bool:=x.toList==y.toList
def ZIl(P:Program)(t:TypeId)(xs:List Value)(off:Nat):Option Value:=
 match P.info? t with
 | some i=>match P.underlying t with
   | some (.struct _)=>some (.agg ((xs.drop off).take i.size).toArray)
   | some (.array _ _)=>some (.agg ((xs.drop off).take i.size).toArray)
   | some _=>xs[off]?
   | none=>none
 | none=>none
def ZYo(P:Program)(f:TypeId->Value->Value->Option Bool)(xs ys:List Value):List Field->Option Bool
 | []=>some true
 | [g]=>match ZIl P g.type xs g.offset,ZIl P g.type ys g.offset with
   | some x,some y=>f g.type x y
   | _,_=>none
 | g::gs=>match ZIl P g.type xs g.offset,ZIl P g.type ys g.offset with
   | some x,some y=>match f g.type x y,ZYo P f xs ys gs with
     | some r,some r'=>some (r&&r')
     | _,_=>none
   | _,_=>none
def ZaV(P:Program)(f:TypeId->Value->Value->Option Bool)(e n:Nat)(xs ys:List Value):List Nat->Option Bool
 | []=>some true
 | i::is=>match ZIl P e xs (i*n),ZIl P e ys (i*n) with
   | some x,some y=>match f e x y,ZaV P f e n xs ys is with
     | some r,some r'=>some (r&&r')
     | _,_=>none
   | _,_=>none
def eqI:Value->Value->Option Bool
 | .int j a,.int j' b=>match decide (j=j') with
   | true=>some (a==b)
   | false=>none
 | _,_=>none
def eqB:Value->Value->Option Bool
 | .bool a,.bool b=>some (a==b)
 | _,_=>none
def eqS:Value->Value->Option Bool
 | .string a,.string b=>some (ZK8 a b)
 | _,_=>none
def ZCs:Value->Option (List Value)
 | .agg xs=>some xs.toList
 | _=>none
def eqV(P:Program):Nat->TypeId->Value->Value->Option Bool
 | 0,_,_,_=>none
 | d+1,t,x,y=>match P.underlying t with
   | some (.int _)=>eqI x y
   | some .bool=>eqB x y
   | some .string=>eqS x y
   | some (.struct fs)=>match ZCs x,ZCs y with
     | some xs,some ys=>ZYo P (eqV P d) xs ys fs.toList
     | _,_=>none
   | some (.array n e)=>match ZCs x,ZCs y with
     | some xs,some ys=>match P.info? e with
       | some i=>ZaV P (eqV P d) e i.size xs ys (List.range n)
       | none=>none
     | _,_=>none
   | _=>none
def ZU6(P:Program):Nat->TypeId->Bool
 | 0,_=>false
 | d+1,t=>match P.underlying t with
   | some (.int _)=>true
   | some .bool=>true
   | some .string=>true
   | some (.struct fs)=>!P.stoodInHeld t&&fs.toList.all λf=>f.name != "_" && ZU6 P d f.type
   | some (.array _ e)=>ZU6 P d e
   | _=>false
def ZZ7(A:Ann)(P:Program)(op:BinOp)(t:TypeId)(x y:Value)(k:EV->Prop):Prop:=
 match x,y with
 | .int j a,.int j' b=>match op with
   | .shl=>0<=b/\k (.val (.int j (ZMa j a b)))
   | .shr=>0<=b/\k (.val (.int j (ZBK j a b)))
   | _=>match decide (j=j') with
     | false=>False
     | true=>match op with
       | .add=>k (.val (.int j (j.wrap (a+b))))
       | .sub=>k (.val (.int j (j.wrap (a-b))))
       | .mul=>k (.val (.int j (j.wrap (a*b))))
       | .quo=>b≠0/\k (.val (.int j (ZY1 j a b)))
       | .rem=>b≠0/\k (.val (.int j (a.tmod b)))
       | .and=>k (.val (.int j (ZCe j a b)))
       | .or=>k (.val (.int j (orI j a b)))
       | .xor=>k (.val (.int j (ZQb j a b)))
       | .andNot=>k (.val (.int j (ZFR j a b)))
       | .eql=>k (.val (.bool (a==b)))
       | .neq=>k (.val (.bool (a != b)))
       | .lss=>k (.val (.bool (decide (a<b))))
       | .leq=>k (.val (.bool (decide (a<=b))))
       | .gtr=>k (.val (.bool (decide (a>b))))
       | .geq=>k (.val (.bool (decide (a>=b))))
       | _=>False
 | .bool a,.bool b=>match op,P.underlying t with
   | .eql,some .bool=>k (.val (.bool (a==b)))
   | .neq,some .bool=>k (.val (.bool (!(a==b))))
   | _,_=>False
 | .string a,.string b=>match op with
   | .eql=>k (.val (.bool (ZK8 a b)))
   | .neq=>k (.val (.bool (!ZK8 a b)))
   | _=>False
 | .pointer p,.pointer none=>match op,P.underlying t with
   | .eql,some (.pointer _)=>k (.val (.bool p.isNone))
   | .neq,some (.pointer _)=>k (.val (.bool (!p.isNone)))
   | _,_=>False
 | .slice a _ _,.slice none _ _=>match op,P.underlying t with
   | .eql,some (.slice _)=>k (.val (.bool a.isNone))
   | .neq,some (.slice _)=>k (.val (.bool (!a.isNone)))
   | _,_=>False
 | .agg xs,.agg ys=>bif A.eqs t then
    (match op,eqV P 20 t (.agg xs) (.agg ys) with
    | .eql,some r=>k (.val (.bool r))
    | .neq,some r=>k (.val (.bool (!r)))
    | _,_=>False)
   else False
 | _,_=>False
def moveL(A:Ann)(dst:Option Tmp)(l:LV)(k:EV->Prop):Prop:=
 match l with
 | .v v=>k (.val v)
 | .r t off _=>match dst with
   | some d=>bif ZAg (A.refOf d) t then k (.ref off) else k .unk
   | none=>k .unk
 | .no=>k .unk
def refTo(A:Ann)(dst:Option Tmp)(t off:Nat)(k:EV->Prop):Prop:=
 match dst with
 | some d=>bif ZAg (A.refOf d) t then k (.ref off) else False
 | none=>False
def ZIh(ρ:Operand->LV):List Operand->Option (List Value)
 | []=>some []
 | x::l=>match ρ x with
   | .v v=>match ZIh ρ l with
     | some vs=>some (v::vs)
     | none=>none
   | _=>none
def ZDQ(ρ:Operand->LV):List (Nat×Operand)->Option (List (Nat×Value))
 | []=>some []
 | (i,x)::l=>match ρ x with
   | .v v=>match ZDQ ρ l with
     | some vs=>some ((i,v)::vs)
     | none=>none
   | _=>none
def ZCc(P:Program)(t:TypeId):Bool:=
 match P.underlying t with
 | some (.struct _)=>true
 | some (.array _ _)=>true
 | _=>false
def ZDh(P:Program)(t:TypeId):Option Value:=
 match P.info? t with
 | some i=>i.zero
 | none=>none
def ZEL(P:Program)(t:TypeId):Bool:=
 match P.info? t with
 | some i=>match i.zero with
   | some z=>Nat.beq z.cells.size i.size
   | none=>false
 | none=>false
def ZA8(P:Program)(t:TypeId):Nat:=
 match P.info? t with
 | some i=>i.bytes
 | none=>0
def ZA3(P:Program)(t:TypeId):Option Nat:=
 match P.info? t with
 | some i=>some i.size
 | none=>none
def ZAz(P:Program)(c:Cdc)(t:TypeId):Bool:=
 c.mem&&(c.agg==ZCc P t)&&(match ZA3 P t with|some n=>Nat.beq n c.n|none=>false)
def ZJl(agg:Bool)(n:Nat)(cs:List Value)(off:Nat)(k:EV->Prop):Prop:=
 match agg with
 | true=>bif Nat.ble (off+n) cs.length then k (.val (.agg ((cs.drop off).take n).toArray)) else False
 | false=>match cs[off]? with
   | some v=>k (.val v)
   | none=>False
def ZOh(c:Cdc)(cs:List Value)(off:Nat)(K:c.T->Prop):Prop:=∃ x,(∀ i v,(c.enc x).cells.toList[i]?=some v->cs[off+i]?=some v)/\K x
def ZUV(c:Cdc)(cs:List Value)(off:Nat)(vs:List Value)(K:c.T->Prop):Prop:=off+vs.length<=cs.length/\∃ x,(c.enc x).cells.toList=ZE9 cs off vs/\K x
def Zcd:Operand->Option Tmp
 | .tmp t=>some t
 | _=>none
def ZQ7(A:Ann)(x:Operand):Bool:=
 match x with
 | .tmp t=>A.dyn.testBit t
 | _=>false
def ZLz(A:Ann)(x:Operand):Bool:=
 match x with
 | .tmp t=>A.isLocal t
 | _=>false
inductive Cls where
 | p|c|r|a|w
 deriving DecidableEq
def ZRK(P:Program)(t:TypeId):Bool:=
 match P.underlying t with
 | some (.chan _ _)=>true
 | _=>false
def cls(A:Ann)(P:Program)(o:Oper):Cls:=
 match o.op with
 | .load _ x=>bif ZLz A x then .p else .r
 | .store _ x _=>bif ZLz A x then .p else .w
 | .alloc _|.box _ _=>match o.dst with
   | some d=>bif A.isProm d then .p else .a
   | none=>.w
 | .buildSlice _ _ _=>.a
 | .makeSlice _ _ _|.makeChan _ _|.makeMap _ _=>.a
 | .convert src dst _=>match P.underlying src,P.underlying dst with
   | some (.int _),some (.int _)=>.p
   | some (.slice _),some .string=>.r
   | _,_=>.w
 | .call c=>match c.callee with
   | .builtin .len=>match c.argTypes[0]? with
     | some t=>bif ZRK P t then .r else .p
     | none=>.w
   | .builtin .min=>.p
   | .builtin .max=>.p
   | .value (.func g)=>bif A.pure g then .c else .w
   | _=>.w
 | .move _|.assign _|.pick _ _ _|.build _ _|.nilCheck _|.binOp _ _ _ _ _|.unOp _ _ _|.makeInterface _ _|.makeFunc _ _ _
 | .slice _ _ _ _ _|.fieldAddr _ _ _|.field _ _ _|.indexAddr _ _ _|.index _ _ _|.extract _ _=>.p
 | _=>.w
def ZA9(A:Ann)(o:Oper):Option Tmp:=
 match o.op with
 | .store _ (.tmp t) _=>bif A.isProm t then some t else A.refOf t
 | _=>o.dst
def Zan(P:Program)(fs:Array Field)(z:Array Value)(l:List (Nat×Value)):Option (Array Value):=
 bif fs.all (λf=>(ZA3 P f.type).isSome) then Instr.fill (λi=>(fs[i]?).map λf=>(f.offset,P.cellsOf f.type)) z l else none
def ZbM(P:Program)(e:TypeId)(z:Array Value)(l:List (Nat×Value)):Option (Array Value):=
 match ZA3 P e with
 | some n=>Instr.fill (λi=>some (i*n,n)) z l
 | none=>none
def opP(A:Ann)(P:Program)(o:Oper)(ρ:Operand->LV)(k:EV->Prop):Prop:=
 match o.op with
 | .move x=>moveL A o.dst (ρ x) k
 | .assign x=>moveL A o.dst (ρ x) k
 | .pick c a b=>match ρ c with
   | .v (.bool t)=>ZB t (moveL A o.dst (ρ a) k) (moveL A o.dst (ρ b) k)
   | _=>False
 | .alloc elem=>match ZDh P elem with
   | some z=>k (.box z.cells.toList)
   | none=>False
 | .box _ x=>match ρ x with
   | .v v=>k (.box v.cells.toList)
   | _=>False
 | .build t ps=>match ZDQ ρ ps.toList,ZDh P t,P.underlying t with
   | some l,some z,some (.struct fs)=>match Zan P fs z.cells l with
     | some cs=>k (.val (.agg cs))
     | none=>False
   | some l,some z,some (.array _ e)=>match ZbM P e z.cells l with
     | some cs=>k (.val (.agg cs))
     | none=>False
   | _,_,_=>False
 | .nilCheck x=>match ρ x with
   | .v (.pointer p)=>ZM p λa=>k (.val (.pointer (some a)))
   | .v (.func (.func f) a b)=>k (.val (.func (.func f) a b))
   | .r t off _=>refTo A o.dst t off k
   | _=>False
 | .binOp op t x y _=>match ρ x,ρ y with
   | .v x,.v y=>ZZ7 A P op t x y k
   | _,_=>False
 | .unOp op _ x=>match op,ρ x with
   | .neg,.v (.int j n)=>k (.val (.int j (j.wrap (0-n))))
   | .not,.v (.bool b)=>k (.val (.bool (!b)))
   | _,_=>False
 | .convert src dst x=>match P.underlying src,P.underlying dst,ρ x with
   | some (.int _),some (.int j),.v (.int _ n)=>k (.val (.int j (j.wrap n)))
   | _,_,_=>False
 | .makeInterface t x=>match P.underlying t,ρ x with
   | some (.interface _),_=>False
   | some _,.v v=>k (.val (.iface t v))
   | _,_=>False
 | .makeFunc fn first captured=>match ZIh ρ first.toList,ZIh ρ captured.toList with
   | some l,some m=>k (.val (.func fn l.toArray m.toArray))
   | _,_=>False
 | .fieldAddr s x f=>match P.underlying s with
   | some (.struct fs)=>match fs[f]? with
     | some fd=>match ZA3 P fd.type with
       | some (_+1)=>match ρ x with
         | .v (.pointer (some a))=>k (.val (.pointer (some (a.add fd.offset))))
         | .r t off _=>refTo A o.dst t (off+fd.offset) k
         | _=>False
       | _=>False
     | none=>False
   | _=>False
 | .field s x f=>match P.underlying s with
   | some (.struct fs)=>match fs[f]? with
     | some fd=>match ZA3 P fd.type,ρ x with
       | some n,.v (.agg cs)=>ZJl (ZCc P fd.type) n cs.toList fd.offset k
       | _,_=>False
     | none=>False
   | _=>False
 | .load t x=>match ZA3 P t,ρ x with
   | some n,.r _ off cs=>bif ZQ7 A x then
      match A.cdc t with
      | some c=>bif ZAz P c t then ZOh c cs off λy=>k (.val (c.enc y)) else False
      | none=>False
     else ZJl (ZCc P t) n cs off k
   | _,_=>False
 | .store t x y=>match ZA3 P t,ρ x,ρ y,o.dst with
   | some n,.r bt off cs,.v v,none=>bif Nat.beq v.cells.size n&&ZJU v.cells.toList then
      (bif ZQ7 A x then
          match A.bcd bt with
          | some c=>ZUV c cs off v.cells.toList λz=>k (.box (c.enc z).cells.toList)
          | none=>False
      else bif Nat.ble (off+n) cs.length then k (.box (ZE9 cs off v.cells.toList)) else False)
     else False
   | _,_,_,_=>False
 | .indexAddr t x ix=>match P.underlying t,ρ ix with
   | some (.slice e),.v (.int _ i)=>match ZA3 P e,ρ x with
     | some n,.v (.slice a len _)=>Zb a len i λad=>k (.val (.pointer (some (ad.add (i.toNat*n)))))
     | _,_=>False
   | some (.array len e),.v (.int _ i)=>match ZA3 P e,ρ x with
     | some n,.v (.pointer (some a))=>atP len i (k (.val (.pointer (some (a.add (i.toNat*n))))))
     | some n,.r t off _=>atP len i (refTo A o.dst t (off+i.toNat*n) k)
     | _,_=>False
   | _,_=>False
 | .index t x ix=>match P.underlying t,ρ x,ρ ix with
   | some .string,.v (.string s),.v (.int _ i)=>atP s.size i (k (.val (.int .u8 ((s.data.getD i.toNat 0).toNat:Int))))
   | _,_,_=>False
 | .slice t x lo hi mx=>match P.underlying t,ρ x with
   | some (.slice e),.v (.slice a len cap)=>match ZA3 P e with
     | none=>False
     | some n=>match lo.map ρ,hi.map ρ,mx.map ρ with
       | none,none,none=>Z3 len cap none none λl h=>k (.val (.slice (Zh a l cap n) (h-l) (cap-l)))
       | some (.v (.int _ i)),none,none=>Z3 len cap (some i) none λl h=>k (.val (.slice (Zh a l cap n) (h-l) (cap-l)))
       | none,some (.v (.int _ j)),none=>Z3 len cap none (some j) λl h=>k (.val (.slice (Zh a l cap n) (h-l) (cap-l)))
       | some (.v (.int _ i)),some (.v (.int _ j)),none=>Z3 len cap (some i) (some j) λl h=>k (.val (.slice (Zh a l cap n) (h-l) (cap-l)))
       | some (.v (.int _ i)),some (.v (.int _ j)),some (.v (.int _ m))=>ZIp cap (some i) j m λl h m=>k (.val (.slice (Zh a l m n) (h-l) (m-l)))
       | none,some (.v (.int _ j)),some (.v (.int _ m))=>ZIp cap none j m λl h m=>k (.val (.slice (Zh a l m n) (h-l) (m-l)))
       | _,_,_=>False
   | some .string,.v (.string s)=>match lo.map ρ,hi.map ρ,mx with
      | some (.v (.int _ i)),none,none=>Z3 s.size s.size (some i) none λl h=>k (.val (.string (s.extract l h)))
      | none,some (.v (.int _ j)),none=>Z3 s.size s.size none (some j) λl h=>k (.val (.string (s.extract l h)))
      | some (.v (.int _ i)),some (.v (.int _ j)),none=>Z3 s.size s.size (some i) (some j) λl h=>k (.val (.string (s.extract l h)))
      | _,_,_=>False
   | some (.array n e),.v (.pointer (some a))=>match ZA3 P e with
     | none=>False
     | some z=>match lo.map ρ,hi.map ρ,mx with
       | none,none,none=>Z3 n n none none λl h=>k (.val (.slice (Zh (some a) l n z) (h-l) (n-l)))
       | some (.v (.int _ i)),none,none=>Z3 n n (some i) none λl h=>k (.val (.slice (Zh (some a) l n z) (h-l) (n-l)))
       | none,some (.v (.int _ j)),none=>Z3 n n none (some j) λl h=>k (.val (.slice (Zh (some a) l n z) (h-l) (n-l)))
       | some (.v (.int _ i)),some (.v (.int _ j)),none=>Z3 n n (some i) (some j) λl h=>k (.val (.slice (Zh (some a) l n z) (h-l) (n-l)))
       | _,_,_=>False
   | _,_=>False
 | .extract x i=>match ρ x with
   | .v (.tuple vs)=>match vs[i]? with
     | some v=>k (.val v)
     | none=>False
   | _=>False
 | .call c=>match c.callee,c.argTypes[0]?,ZIh ρ c.args.toList with
   | .builtin .len,some t,some [v]=>match P.underlying t,v with
     | some .string,.string s=>k (.val (.int .i64 (s.size:Int)))
     | some (.array n _),_=>k (.val (.int .i64 (n:Int)))
     | some (.slice _),.slice _ n _=>k (.val (.int .i64 (n:Int)))
     | _,_=>False
   | .builtin .min,_,some [.int j x,.int _ y]=>k (.val (.int j (ZGd x y)))
   | .builtin .max,_,some [.int j x,.int _ y]=>k (.val (.int j (ZQq x y)))
   | _,_,_=>False
 | _=>False
def opC(A:Ann)(P:Program)(o:Oper)(ρ:Operand->LV)(k:EV->Prop):Prop:=
 match o.op with
 | .call c=>match c.callee with
   | .value (.func g)=>match ZIh ρ c.args.toList,A.res g,P.funcs[g]? with
     | some l,some r,some fn=>match fn.body with
       | some _=>ZTn P g l r λy=>k (.val (r.enc y))
       | none=>False
     | _,_,_=>False
   | _=>False
 | _=>False
def ZKM(xs:List Int):ByteArray:=xs.foldl (λs n=>s.push (UInt8.ofNat n.toNat)) ByteArray.empty
def ZD6(xs:List Int):List Value:=xs.map λn=>.int .u8 n
def ZZk(a:Option Addr)(len:Nat)(h:Hp)(K:ByteArray->Prop):Prop:=
 match a with
 | none=>K ByteArray.empty
 | some a=>∃ xs:List Int,xs.length=len/\h.rds a (ZD6 xs)/\K (ZKM xs)
def Zbn(c:Option Nat)(h:Hp)(K:Int->Prop):Prop:=
 match c with
 | none=>K 0
 | some r=>∃ cap buf cl s r',h r=some (.chan cap buf cl s r' false)/\K (buf.size:Int)
def opR(A:Ann)(P:Program)(o:Oper)(ρ:Operand->LV)(h:Hp)(k:EV->Prop):Prop:=
 match o.op with
 | .load t x=>match A.cdc t,ρ x with
   | some c,.v (.pointer (some a))=>bif ZAz P c t then ZC c a h λy=>k (.val (c.enc y)) else False
   | _,_=>False
 | .convert src dst x=>match P.underlying src,P.underlying dst,ρ x with
   | some (.slice e),some .string,.v (.slice a len _)=>match P.underlying e with
     | some (.int .u8)=>ZZk a len h λs=>k (.val (.string s))
     | _=>False
   | _,_,_=>False
 | .call c=>match c.callee,c.argTypes[0]?,ZIh ρ c.args.toList with
   | .builtin .len,some t,some [.chan r]=>bif ZRK P t then Zbn r h λn=>k (.val (.int .i64 n)) else False
   | _,_,_=>False
 | _=>False
def Z0(n:Nat)(zs:List Value):List Value:=(List.replicate n zs).flatten
def ZC2(n m:Int)(bytes:Nat)(K:Prop):Prop:=0<=n/\n<=m/\m<=1099511627776/\(bytes:Int)*m<=1099511627776/\K
def ZSV(n:Int)(bytes:Nat)(K:Prop):Prop:=0<=n/\n<=1099511627776/\(bytes:Int)*n<=1099511627776/\K
def opA(P:Program)(o:Oper)(ρ:Operand->LV)(k:Obj->(Nat->Value)->Prop):Prop:=
 match o.op with
 | .alloc elem=>match ZDh P elem with
   | some z=>k (.cells z.cells elem) λb=>.pointer (some ⟨b,0,none⟩)
   | none=>False
 | .box elem x=>match ρ x with
   | .v v=>k (.cells v.cells elem) λb=>.pointer (some ⟨b,0,none⟩)
   | _=>False
 | .buildSlice t len ps=>match P.underlying t,ZDQ ρ ps.toList with
   | some (.slice e),some l=>match ZA3 P e,ZDh P e with
     | some n,some z=>bif Nat.ble (len*n) 16777216 then
          (match Instr.fill (λi=>some (i*n,n)) ((Array.range (len*n)).map (z.cells[· % z.cells.size]!)) l with
          | some cs=>k (.cells cs e) λb=>.slice (some ⟨b,0,none⟩) len len
          | none=>False)
       else False
     | _,_=>False
   | _,_=>False
 | .makeSlice t l c=>match P.underlying t,ρ l,ρ c with
   | some (.slice e),.v (.int _ n),.v (.int _ m)=>match ZDh P e with
     | some z=>bif ZEL P e then ZC2 n m (ZA8 P e) (k (.cells (Z0 m.toNat z.cells.toList).toArray e) λb=>.slice (some ⟨b,0,none⟩) n.toNat m.toNat) else False
     | none=>False
   | _,_,_=>False
 | .makeChan t n=>match P.underlying t,ρ n with
   | some (.chan _ e),.v (.int _ n)=>match ZA3 P e with
     | some _=>ZSV n (ZA8 P e) (k (.chan n.toNat #[] false 0 0 false) λb=>.chan (some b))
     | none=>False
   | _,_=>False
 | .makeMap t r=>match r,P.underlying t with
   | none,some (.map _ _)=>k (.map #[] 0) λb=>.map (some b)
   | _,_=>False
 | _=>False
def ZO(c:Cdc)(xs:List c.T):List Value:=xs.flatMap λx=>(c.enc x).cells.toList
def ZCS(c:Cdc)(a:Option Addr)(len:Nat)(h:Hp)(K:List c.T->Prop):Prop:=
 match a with
 | none=>len=0/\K []
 | some a=>∃ xs:List c.T,xs.length=len/\h.rds a (ZO c xs)/\K xs
def ZAW:Nat:=1099511627776
def ZR(c:Cdc)(e:TypeId)(bytes:Nat)(a:Option Addr)(len cap:Nat)(b:Option Addr)(n:Nat)(h:Hp)(K:Option Addr->Nat->Nat->Hp->Prop):Prop:=
 ZCS c b n h λys=>
  (len+n<=cap->match a with
    | some ad=>h.may (ad.add (len*c.n)) (n*c.n)/\K a (len+n) cap (h.wrs (ad.add (len*c.n)) 0 (ZO c ys))
    | none=>K a (len+n) cap h)/\
  (cap<len+n->(len+n)*bytes<=ZAW/\ZCS c a len h λxs=>
    ∀ nc pad,len+n<=nc->pad.length=(nc-(len+n))*c.n->
     ZJ (.cells (ZO c xs++(ZO c ys++pad)).toArray e) h λnb h'=>K (some ⟨nb,0,none⟩) (len+n) nc h')
def ZHV(c:Cdc)(z:c.T)(e:TypeId)(bytes:Nat)(a:Option Addr)(len cap:Nat)(n:Int)(h:Hp)(K:Option Addr->Nat->Nat->Hp->Prop):Prop:=
 0<=n/\n.toNat*bytes<=ZAW/\
  (len+n.toNat<=cap->match a with
    | some ad=>h.may (ad.add (len*c.n)) (n.toNat*c.n)/\K a (len+n.toNat) cap (h.wrs (ad.add (len*c.n)) 0 (ZO c (List.replicate n.toNat z)))
    | none=>K a (len+n.toNat) cap h)/\
  (cap<len+n.toNat->(len+n.toNat)*bytes<=ZAW/\ZCS c a len h λxs=>
    ∀ nc pad,len+n.toNat<=nc->pad.length=(nc-len)*c.n->
     ZJ (.cells (ZO c xs++pad).toArray e) h λnb h'=>K (some ⟨nb,0,none⟩) (len+n.toNat) nc h')
def ZBN(c:Cdc)(a:Option Addr)(len:Nat)(b:Option Addr)(n:Nat)(h:Hp)(K:Int->Hp->Prop):Prop:=
 ZCS c b (min n len) h λys=>match a with
  | some ad=>h.may ad (min n len*c.n)/\K (min n len:Nat) (h.wrs ad 0 (ZO c ys))
  | none=>K (min n len:Nat) h
def ZEM(c:Cdc)(z:c.T)(a:Option Addr)(n:Nat)(h:Hp)(K:Hp->Prop):Prop:=
 match a with
 | some ad=>h.may ad (n*c.n)/\K (h.wrs ad 0 (ZO c (List.replicate n z)))
 | none=>K h
def ZPH(e:TypeId)(s:ByteArray)(h:Hp)(K:Nat->Nat->Hp->Prop):Prop:=
 ∀ cap pad b,s.size<=cap->pad.length=cap-s.size->h b=none->
  K b cap (h.upd b (.cells (ZD6 (s.data.toList.map λx=>(x.toNat:Int))++pad).toArray e (cap,cap+1)))
def frz(n:Nat):Nat×Nat->Nat×Nat
 | (lo,hi)=>if lo==hi then (n,n+1) else (min lo n,max hi (n+1))
def ZaW(a:Addr)(h:Hp)(K:Hp->Prop):Prop:=
 ∃ c e fz,h a.block=some (.cells c e fz)/\K (h.upd a.block (.cells c e (frz c.size fz)))
def ZbX(c:Option Nat)(v:Value)(h:Hp)(Kn:Prop)(Ks:Hp->Prop):Prop:=
 match c with
 | none=>Kn
 | some r=>∃ cap buf s r',h r=some (.chan cap buf false s r' false)/\(cap<=buf.size->Kn)/\(buf.size<cap->Ks (h.upd r (.chan cap (buf.push v) false (s+1) r' false)))
def ZbP(cd:Cdc)(c:Option Nat)(h:Hp)(Kn:Prop)(Ks:cd.T->Hp->Prop):Prop:=
 match c with
 | none=>Kn
 | some r=>∃ cap l s r',h r=some (.chan cap (List.toArray l) false s r' false)/\match l with
   | []=>Kn
   | v::l=>∃ x,v=cd.enc x/\Ks x (h.upd r (.chan cap (List.toArray l) false s (r'+1) false))
def opW(A:Ann)(P:Program)(o:Oper)(ρ:Operand->LV)(h:Hp)(k:EV->Hp->Prop):Prop:=
 match o.op with
 | .store t x y=>match A.cdc t,ρ x,ρ y with
   | some c,.v (.pointer (some a)),.v v=>bif ZAz P c t then
      (match c.dec v with
      | some z=>ZS c a z h λh'=>k .unk h'
      | none=>False)
     else False
   | _,_,_=>False
 | .call c=>match c.callee,ZIh ρ c.args.toList with
   | .value f,some l=>match ρ f with
     | .v (.func (.func g) first captured)=>match Za9 A f with
       | some r=>ZBe P g first captured l r h λy h'=>k (.val (r.enc y)) h'
       | none=>match A.res g with
       | some r=>match P.funcs[g]? with
         | some fn=>match fn.body with
           | some _=>ZA P g (first.toList++(l++captured.toList)) r h λy h'=>k (.val (r.enc y)) h'
           | none=>ZN7 P g (first.toList++(l++captured.toList)) r h λy=>k (.val (r.enc y)) h
         | none=>False
       | none=>False
     | _=>False
   | .builtin .append,some [.slice a len cap,.slice b n _]=>match c.argTypes[0]?,c.argTypes[1]? with
     | some t,some u=>match P.underlying t,P.underlying u with
       | some (.slice e),some (.slice _)=>match A.cdc e with
         | some cd=>bif ZAz P cd e&&(Nat.ble 1 (ZA8 P e)&&(Nat.ble (ZA8 P e) 1048576&&ZEL P e)) then
            ZR cd e (ZA8 P e) a len cap b n h λa' l' c' h'=>k (.val (.slice a' l' c')) h'
           else False
         | none=>False
       | _,_=>False
     | _,_=>False
   | .builtin .copy,some [.slice a len _,.slice b n _]=>match c.argTypes[0]? with
     | some t=>match P.underlying t with
       | some (.slice e)=>match A.cdc e with
         | some cd=>bif ZAz P cd e then ZBN cd a len b n h λm h'=>k (.val (.int .i64 m)) h' else False
         | none=>False
       | _=>False
     | none=>False
   | .builtin .clear,some [.slice a n _]=>match c.argTypes[0]? with
     | some t=>match P.underlying t with
       | some (.slice e)=>match A.cdc e,ZDh P e with
         | some cd,some z=>bif ZAz P cd e then
            (match cd.dec z with
            | some z=>ZEM cd z a n h λh'=>k (.val (.tuple #[])) h'
            | none=>False)
           else False
         | _,_=>False
       | _=>False
     | none=>False
   | _,_=>False
 | .convert src dst x=>match P.underlying src,P.underlying dst,ρ x with
   | some .string,some (.slice e),.v (.string s)=>match P.underlying e with
     | some (.int .u8)=>ZPH e s h λb cap h'=>k (.val (.slice (some ⟨b,0,none⟩) s.size cap)) h'
     | _=>False
   | some (.slice _),some (.slice e),.v (.slice (some a) len cap)=>match P.underlying e with
     | some (.int .u8)=>bif Nat.beq src dst then ZaW a h λh'=>k (.val (.slice (some a) len cap)) h' else False
     | _=>False
   | _,_,_=>False
 | .select cs block=>match block,cs with
   | false,⟨[sc]⟩=>match sc.send with
     | none=>match A.cdc sc.elem,ZDh P sc.elem,ρ sc.chan with
       | some c,some z,.v (.chan r)=>ZbP c r h (k (.val (.tuple #[.int .i64 (-1),.bool false,z])) h) λx h'=>k (.val (.tuple #[.int .i64 0,.bool true,c.enc x])) h'
       | _,_,_=>False
     | some x=>match ZDh P sc.elem,ρ sc.chan,ρ x with
       | some _,.v (.chan r),.v v=>ZbX r v h (k (.val (.tuple #[.int .i64 (-1),.bool false])) h) λh'=>k (.val (.tuple #[.int .i64 0,.bool false])) h'
       | _,_,_=>False
   | _,_=>False
 | .lookup t x ix ok=>match ok,P.underlying t with
   | false,some (.map kt et)=>match P.underlying kt,A.cdc et,ZDh P et with
     | some (.int kk),some c,some z=>match ρ x,ρ ix with
       | .v (.map m),.v (.int k' n)=>match decide (kk=k'),c.dec z with
         | true,some zz=>ZW7 c kk m n zz h λy=>k (.val (c.enc y)) h
         | _,_=>False
       | _,_=>False
     | _,_,_=>False
   | _,_=>False
 | .mapUpdate t x ix y=>match P.underlying t with
   | some (.map kt et)=>match P.underlying kt,A.cdc et with
     | some (.int kk),some c=>match ρ x,ρ ix,ρ y with
       | .v (.map m),.v (.int k' n),.v v=>match decide (kk=k'),c.dec v with
         | true,some vv=>ZZt c kk m n vv h λh'=>k .unk h'
         | _,_=>False
       | _,_,_=>False
     | _,_=>False
   | _=>False
 | _=>False
def ZDV(A:Ann)(bx:Nat->Nat)(env:Env)(a:Act)(h fr:Hp)(w:World)(s:Nat):EV->Prop
 | .val v=>a.tmps[s]?=some v
 | .box cs=>a.tmps[s]?=some (.pointer (some ⟨bx s,0,none⟩))/\(∃ e,w.heap[bx s]?=some (.cells cs.toArray e (0,0)))/\h (bx s)=none/\fr (bx s)=none
 | .ref off=>∃ t,A.refOf s=some t/\a.tmps[s]?=some (.pointer (some ⟨bx t,off,none⟩))/\∃ cs,env t=.box cs
 | .unk=>True
structure Rel (A:Ann) (N:Nat) (bx:Nat->Nat) (env:Env) (a:Act) (h fr:Hp) (w0 w:World):Prop where
 size:a.tmps.size=N
 defers:a.defers=A.defs
 hle:h.le w
 frle:fr.le w
 dj:h.dj fr
 same:ZGj w0 w
 slot:∀ s,ZDV A bx env a h fr w s (env s)
 prom:∀ s cs,env s=.box cs->A.isProm s=true
 inj:∀ s t cs ds,env s=.box cs->env t=.box ds->bx s=bx t->s=t
def Ann.good(A:Ann):Prop:=∀ s t,A.refOf s=some t->A.isProm s=false
theorem ZFc{a:Nat}:Nat.beq a b=true↔a=b:=Nat.beq_eq▸Iff.rfl
theorem ZUY{a:Nat}:Nat.beq a b=false↔a≠b:=by
 constructor
 .intro h e;rw[ZFc.2 e]at h;cases h
 .intro h;cases e:Nat.beq a b with
  | false=>rfl
  | true=>exact absurd (ZFc.1 e) h
variable {a:Act}
theorem ZBM{o:Option Nat}:ZAg o b=true↔o=some b:=by
 cases o with
 | none=>simp[ZAg]
 | some a=>simp[ZAg]
variable {A:Ann}{env:Env}
theorem Rel.eval_v(R:Rel A N bx env a h fr w0 w)(e:look A env x=.v v):a.eval x=v:=by
 cases x with
 | tmp t=>
   have D:=R.slot t;simp only[look]at e;cases B:env t with
   | val u=>
     rw[B]at e D;simp at e;subst e;simp only[ZDV]at D;simp[Act.eval,D]
   | box cs=>rw[B]at e;simp at e
   | ref off=>
     rw[B]at e;simp only at e;cases H:A.refOf t with
     | none=>rw[H]at e;cases e
     | some I=>
       rw[H]at e;simp only at e;cases E:A.isProm I with
       | false=>rw[E]at e;cases e
       | true=>rw[E]at e;simp only[XL]at e;cases h':env I<;>rw[h']at e<;>cases e
   | unk=>rw[B]at e;cases e
 | const u=>simp[look]at e;subst e;rfl
 | func f=>simp[look]at e;subst e;rfl
 | global g=>cases e
theorem Rel.eval_r(R:Rel A N bx env a h fr w0 w){t:Nat}(e:look A env x=.r t off cs):
 a.eval x=.pointer (some ⟨bx t,off,none⟩)/\env t=.box cs/\∃ s,x=.tmp s/\((s=t/\off=0/\A.isProm s=true)\/(A.refOf s=some t/\A.isProm t=true)):=by
 cases x with
 | tmp s=>
   have E:=R.slot s;simp only[look]at e;cases B:env s with
   | val u=>rw[B]at e;cases e
   | box M=>
     rw[B]at e E;simp at e;obtain⟨rfl,rfl,rfl⟩:=e;obtain⟨H,_⟩:=E;exact⟨by simp[Act.eval,H],B,s,rfl,.inl ⟨rfl,rfl,R.prom _ _ B⟩⟩
   | ref o=>
     rw[B]at e E;simp only at e;obtain⟨O,I,H,M,D⟩:=E;rw[I]at e;simp only at e;rw[D,R.prom _ _ D]at e;simp[ZTL]at e;obtain⟨rfl,rfl,rfl⟩:=e;exact⟨by simp[Act.eval,H],D,s,rfl,.inr ⟨I,R.prom _ _ D⟩⟩
   | unk=>rw[B]at e;cases e
 | const u=>cases e
 | func f=>cases e
 | global g=>cases e
theorem ZCP(d:Nat)(e:EV):put A env (some d) e d=e:=by simp[put]
theorem ZBn(e:EV)(D:s≠d):put A env (some d) e s=env s\/(put A env (some d) e s=.unk/\A.isProm d=true/\A.refOf s=some d):=by
 simp only[put,ZUY.2 D,Yu];cases B:(A.isProm d&&ZAg (A.refOf s) d) with
 | false=>left;rfl
 | true=>
   right;simp only[Xf]at B;exact⟨rfl,B.1,ZBM.1 B.2⟩
theorem ZGu(a:Act)(d:Option Tmp)(v:Value):(a.put d v).tmps.size=a.tmps.size:=by cases d<;>simp[Act.put]
theorem ZE2(a:Act)(d:Option Tmp)(v:Value):(a.put d v).defers=a.defers:=by cases d<;>rfl
theorem ZDF(a:Act)(v:Value)(B:d<a.tmps.size):(a.put (some d) v).tmps[d]?=some v:=by simp[Act.put,B]
theorem ZCm(a:Act)(v:Value)(B:s≠d):(a.put (some d) v).tmps[s]?=a.tmps[s]?:=by simp only[Act.put];rw[Array.getElem?_setIfInBounds_ne (Ne.symm B)]
def ZbE(A:Ann)(bx:Nat->Nat)(env:Env)(d:Option Tmp)(ev:EV)(v:Value):Prop:=
 match ev with
 | .val u=>u=v
 | .ref off=>∃ s t,d=some s/\A.refOf s=some t/\(∃ cs,env t=.box cs)/\v=.pointer (some ⟨bx t,off,none⟩)
 | .unk=>True
 | .box _=>False
theorem Rel.put(R:Rel A N bx env a h fr w0 w)(O:A.good){d:Option Tmp}(Q:∀ k,d=some k->k<N){ev:EV}{v:Value}(M:ZbE A bx env d ev v):
 Rel A N bx (Eng.put A env d ev) (a.put d v) h fr w0 w:=by
 cases d with
 | none=>exact R
 | some d=>
   have Q:=Q d rfl;have H:d<a.tmps.size:=by rw[R.size];exact Q
   have Y:∀ s cs,Eng.put A env (some d) ev s=.box cs->s≠d/\env s=.box cs:=by
    intro s cs B;by_cases e:s=d
    .subst e;rw[ZCP]at B;subst B;exact M.elim
    .refine ⟨e,?_⟩;rcases ZBn (A:=A) (env:=env) ev e with h'|⟨h',_,_⟩
     .rw [h']at B;exact B
     .rw [h']at B;cases B
   refine⟨by rw[ZGu];exact R.size,by rw[ZE2];exact R.defers,R.hle,R.frle,R.dj,R.same,?_,?_,?_⟩
   ·intro s;by_cases e:s=d
    ·subst e;rw[ZCP];cases ev with
     | val u=>simp only[ZbE]at M;subst M;exact ZDF a _ H
     | box cs=>exact M.elim
     | ref off=>
       obtain⟨s',t,S,I,⟨cs,E⟩,rfl⟩:=M;cases S;refine⟨t,I,ZDF a _ H,cs,?_⟩;have W:t≠s:=by rintro rfl;have:=O _ _ I;rw[R.prom _ _ E]at this;cases this
       rcases ZBn (A:=A) (env:=env) (EV.ref off) W with h'|⟨_,_,h2⟩
       .rw [h'];exact E
       .have:=O _ _ h2;rw[R.prom _ _ E]at this;cases this
     | unk=>trivial
    ·rcases ZBn (A:=A) (env:=env) ev e with h'|⟨h',_,_⟩
     ·rw[h'];have B:=R.slot s;cases D:env s with
      | val u=>rw[D]at B;simp only[ZDV]at B⊢;rw[ZCm a v e];exact B
      | box cs=>rw[D]at B;simp only[ZDV]at B⊢;rw[ZCm a v e];exact B
      | ref off=>
        rw[D]at B;simp only[ZDV]at B⊢;rw[ZCm a v e];obtain⟨t,I,U,cs,E⟩:=B;refine⟨t,I,U,cs,?_⟩
        have V:t≠d:=by
            rintro rfl;rcases ZBn (A:=A) (env:=env) ev e with h2|⟨h2,_,_⟩
            .have hp:=R.prom _ _ E;have:Eng.put A env (some t) ev s=.unk:=by simp only[Eng.put,ZUY.2 e,Yu,hp,I,ZAg,ZFc.2 rfl,Ug,XL]
             rw[this]at h2;rw[<-h2]at D;cases D
            .rw [h']at h2;rw[h2]at D;cases D
        rcases ZBn (A:=A) (env:=env) ev V with h2|⟨_,_,h3⟩
        .rw [h2];exact E
        .have:=O _ _ h3;rw[R.prom _ _ E]at this;cases this
      | unk=>trivial
     .rw [h'];trivial
   .intro s cs B;exact R.prom s cs (Y s cs B).2
   .intro s t cs Z B U he;exact R.inj s t cs Z (Y s cs B).2 (Y t Z U).2 he
variable {h':Hp}
theorem Rel.world(R:Rel A N bx env a h fr w0 w)(I:h'.le w')(E:fr.le w')(dj:h'.dj fr)(same:ZGj w w')(H:∀ b,b<w.heap.size->h b=none->fr b=none->w'.heap[b]?=w.heap[b]?/\h' b=none):Rel A N bx env a h' fr w0 w':=by
 refine⟨R.size,R.defers,I,E,dj,R.same.trans same,?_,R.prom,R.inj⟩;intro s;have D:=R.slot s;cases B:env s with
 | val u=>rw[B]at D;exact D
 | box cs=>
   rw[B]at D;obtain⟨O,⟨e,h2⟩,h3,h4⟩:=D;have M:bx s<w.heap.size:=by
    rcases WB (bx s) w.heap.size with h'|h'
    .exact h'
    .rw [YC h']at h2;cases h2
   obtain⟨k1,Q⟩:=H _ M h3 h4;exact⟨O,⟨e,by rw[k1];exact h2⟩,Q,h4⟩
 | ref off=>rw[B]at D;exact D
 | unk=>trivial
noncomputable def ZFJ(bx:Nat->Nat)(env:Env)(w:World):Hp:=λb=>
 open Classical in if ∃ s cs,env s=.box cs/\bx s=b then w.heap[b]? else none
theorem Rel.boxes_le(_R:Rel A N bx env a h fr w0 w):(ZFJ bx env w).le w:=by
 intro b o B;unfold ZFJ at B;split at B
 .exact B
 .cases B
theorem Rel.boxes_dj(R:Rel A N bx env a h fr w0 w):h.dj (ZFJ bx env w):=by
 intro b;unfold ZFJ;split
 .rename_i E;obtain⟨s,cs,D,rfl⟩:=E;have B:=R.slot s;rw[D]at B;exact .inl B.2.2.1
 .exact .inr rfl
theorem Rel.boxes_dj'(R:Rel A N bx env a h fr w0 w):(ZFJ bx env w).dj fr:=by
 intro b;unfold ZFJ;split
 .rename_i E;obtain⟨s,cs,D,rfl⟩:=E;have B:=R.slot s;rw[D]at B;exact .inr B.2.2.2
 .exact .inl rfl
theorem Rel.called(R:Rel A N bx env a h fr w0 w)(I:h'.le w')(D:((ZFJ bx env w).un fr).le w')(dj:h'.dj ((ZFJ bx env w).un fr))(same:ZGj w w'):
 Rel A N bx env a h' fr w0 w':=by
 have H:=R.boxes_dj';have S:=Hp.le_un_right H D;have bl:=Hp.le_un_left D;have O:=Hp.dj_symm (Hp.dj_un_left (Hp.dj_symm dj));have Q:=Hp.dj_symm (Hp.dj_un_right (Hp.dj_symm dj));refine⟨R.size,R.defers,I,S,Q,R.same.trans same,?_,R.prom,R.inj⟩;intro s;have E:=R.slot s;cases B:env s with
 | val u=>rw[B]at E;exact E
 | box cs=>
   rw[B]at E;obtain⟨U,⟨e,h2⟩,h3,h4⟩:=E;have M:ZFJ bx env w (bx s)=some (.cells cs.toArray e (0,0)):=by unfold ZFJ;rw[Xe ⟨s,cs,B,rfl⟩];exact h2
   refine⟨U,⟨e,bl _ _ M⟩,?_,h4⟩;rcases O (bx s)with k|k
   .exact k
   .rw [M]at k;cases k
 | ref off=>rw[B]at E;exact E
 | unk=>trivial
theorem Rel.newBox(R:Rel A N bx env a h fr w0 w)(hA:A.good)(hd:d<N)(Y:A.isProm d=true)(cs:List Value)(e:TypeId):
 Rel A N (λs=>if s=d then w.heap.size else bx s) (Eng.put A env (some d) (.box cs)) (a.put (some d) (.pointer (some ⟨w.heap.size,0,none⟩))) h fr w0 (w.alloc (.cells cs.toArray e)):=by
 have U:d<a.tmps.size:=by rw[R.size];exact hd
 have ob:∀ s B,s≠d->Eng.put A env (some d) (.box cs) s=.box B->env s=.box B:=by
  intro s B E I;rcases ZBn (A:=A) (env:=env) (EV.box cs) E with h'|⟨h',_,_⟩
  .rw [h']at I;exact I
  .rw [h']at I;cases I
 have lt:∀ s B,env s=.box B->bx s<w.heap.size:=by
  intro s B I;have E:=R.slot s;rw[I]at E;obtain⟨_,⟨e,h2⟩,_,_⟩:=E;rcases WB (bx s) w.heap.size with h'|h'
  .exact h'
  .rw [YC h']at h2;cases h2
 have V:∀ k,k<w.heap.size->(w.alloc (.cells cs.toArray e)).heap[k]?=w.heap[k]?:=by intro k hk;show (w.heap.push _)[k]?=_;rw[Vf,Xd (by omega)]
 refine⟨by rw[ZGu];exact R.size,by rw[ZE2];exact R.defers,Hp.le_alloc R.hle _,Hp.le_alloc R.frle _,R.dj,R.same.trans ⟨rfl,rfl,rfl⟩,?_,?_,?_⟩
 ·intro s;by_cases D:s=d
  .subst D;rw[ZCP];refine⟨by rw[ZDF a _ U];simp,⟨e,?_⟩,?_,?_⟩
   .simp only[Yp];show (w.heap.push _)[w.heap.size]?=_;simp
   .simp only[Yp];exact Hp.le_lt R.hle (Xc _)
   .simp only[Yp];exact Hp.le_lt R.frle (Xc _)
  ·rcases ZBn (A:=A) (env:=env) (EV.box cs) D with h'|⟨h',_,_⟩
   ·rw[h'];have E:=R.slot s;cases H:env s with
    | val u=>rw[H]at E;simp only[ZDV]at E⊢;rw[ZCm a _ D];exact E
    | box B=>
      rw[H]at E;obtain⟨h1,⟨e',h2⟩,S,h4⟩:=E;simp only[ZDV,Xd D];rw[ZCm a _ D];exact⟨h1,⟨e',by rw[V _ (lt _ _ H)];exact h2⟩,S,h4⟩
    | ref off=>
      rw[H]at E;obtain⟨t,Z,Q,B,W⟩:=E
      have O:t≠d:=by
          rintro rfl;have:Eng.put A env (some t) (.box cs) s=.unk:=by simp only[Eng.put,ZUY.2 D,Yu,Y,Z,ZAg,ZFc.2 rfl,Ug,XL]
          rw[this]at h';rw[<-h']at H;cases H
      simp only[ZDV];rw[ZCm a _ D];refine⟨t,Z,by rw[Xd O];exact Q,B,?_⟩;rcases ZBn (A:=A) (env:=env) (EV.box cs) O with h2|⟨_,_,S⟩
      .rw [h2];exact W
      .have:=hA _ _ S;rw[R.prom _ _ W]at this;cases this
    | unk=>trivial
   .rw [h'];trivial
 .intro s B E;by_cases D:s=d
  .subst D;exact Y
  .exact R.prom s B (ob s B D E)
 .intro s t cs' B E Q I;by_cases D:s=d
  .by_cases M:t=d
   .rw [D,M]
   .simp only[D,Yp,Xd M]at I;have:=lt t B (ob t B M Q);omega
  .by_cases M:t=d
   .simp only[M,Yp,Xd D]at I;have:=lt s cs' (ob s cs' D E);omega
   .simp only[Xd D,Xd M]at I;exact R.inj s t cs' B (ob s cs' D E) (ob t B M Q) I
theorem Rel.setBox(R:Rel A N bx env a h fr w0 w){t:Nat}(_hA:A.good)(W:env t=.box cs)(hw:∃ e,w'.heap[bx t]?=some (.cells cs'.toArray e (0,0)))(I:∀ k,k≠bx t->w'.heap[k]?=w.heap[k]?)(same:ZGj w w'):
 ∃ env',env'=(λs=>if s=t then EV.box cs' else env s)/\Rel A N bx env' a h fr w0 w':=by
 refine⟨_,rfl,?_⟩;have O:=R.slot t;rw[W]at O;obtain⟨t1,t2,t3,t4⟩:=O;have M:∀ g:Hp,g.le w->g (bx t)=none->g.le w':=by intro g hg h0 k o V;rw[I k (by rintro rfl;rw[h0]at V;cases V)];exact hg k o V
 have ob:∀ s E,(if s=t then EV.box cs' else env s)=.box E->∃ D,env s=.box D:=by
  intro s E B;by_cases e:s=t
  .subst e;exact⟨_,W⟩
  .rw [Xd e]at B;exact⟨_,B⟩
 refine⟨R.size,R.defers,M h R.hle t3,M fr R.frle t4,R.dj,R.same.trans same,?_,?_,?_⟩
 ·intro s;by_cases e:s=t
  .subst e;simp only[Yp];exact⟨t1,hw,t3,t4⟩
  ·simp only[Xd e];have B:=R.slot s;cases H:env s with
   | val u=>rw[H]at B;exact B
   | box E=>
     rw[H]at B;obtain⟨S,⟨e',h2⟩,h3,h4⟩:=B;exact⟨S,⟨e',by rw[I _ (λU=>e (R.inj _ _ _ _ H W U))];exact h2⟩,h3,h4⟩
   | ref off=>
     rw[H]at B;obtain⟨u,hr,Y,E,U⟩:=B;refine⟨u,hr,Y,?_⟩;by_cases Z:u=t
     .exact ⟨cs',Xe Z⟩
     .exact ⟨E,by show (if u=t then _ else _)=_;rw[Xd Z];exact U⟩
   | unk=>trivial
 .intro s E B;obtain⟨D,h'⟩:=ob s E B;exact R.prom s D h'
 .intro s u E es B Y he;obtain⟨D,S⟩:=ob s E B;obtain⟨Q,h2⟩:=ob u es Y;exact R.inj s u D Q S h2 he
theorem ZJV{i:TypeInfo}(h:P.info? t=some i):(typeInfo t).run P w=.ok i w:=by simp only[typeInfo,Sem.run_bind,run_program,Result.andThen_ok,h];rfl
theorem ZB9(h:ZA3 P t=some n):(sizeOf t).run P w=.ok n w:=by
 unfold ZA3 at h;cases hi:P.info? t with
 | none=>rw[hi]at h;cases h
 | some i=>rw[hi]at h;simp only[XT]at h;subst h;simp only[sizeOf,Sem.run_bind,ZJV hi,Result.andThen_ok];rfl
theorem ZMw(h:ZA3 P t=some n):P.cellsOf t=n:=by
 unfold ZA3 at h;unfold Program.cellsOf;cases hi:P.info? t with
 | none=>rw[hi]at h;cases h
 | some i=>rw[hi]at h;simp only[XT]at h;subst h;rfl
theorem Zg{d:TypeDesc}(h:P.underlying t=some d):(underlying t).run P w=.ok d w:=by simp only[underlying,Sem.run_bind,run_program,Result.andThen_ok,h];rfl
theorem ZH8{d:TypeDesc}(h:P.underlying t=some d):(isAgg t).run P w=.ok (ZCc P t) w:=by unfold isAgg ZCc;simp only[Sem.run_bind,Zg h,Result.andThen_ok,h];cases d<;>rfl
theorem ZDc(h:ZDh P t=some z):(zeroValue t).run P w=.ok z w:=by
 unfold ZDh at h;cases hi:P.info? t with
 | none=>rw[hi]at h;cases h
 | some i=>rw[hi]at h;simp only at h;simp only[zeroValue,Sem.run_bind,ZJV hi,Result.andThen_ok,h];rfl
theorem ZMi(h:ZA3 P t=some n):∃ i,P.info? t=some i/\i.size=n/\i.bytes=ZA8 P t:=by
 unfold ZA3 at h;unfold ZA8;cases hi:P.info? t with
 | none=>rw[hi]at h;cases h
 | some i=>rw[hi]at h;simp only[XT]at h;exact⟨i,rfl,h,rfl⟩
theorem ZBu{cs:Array Value}(B:w.heap[b]?=some (.cells cs e fz))(i:Nat):w.cell? ⟨b,i,none⟩=cs[i]?:=by simp[World.cell?,B]
theorem ZIe{cs:Array Value}(B:w.heap[b]?=some (.cells cs e (0,0)))(i:Nat):w.frozen? ⟨b,i,none⟩=false:=by simp[World.frozen?,B]
theorem ZEv(b o i:Nat):(⟨b,o,none⟩:Addr).add i=⟨b,o+i,none⟩:=by
 unfold Addr.add;split
 .rename_i h;subst h;rfl
 .rfl
theorem ZKV(h:ZGZ v=true):v.oneCell'=true:=by cases v<;>first|rfl|cases h
theorem ZFf(h:ZGZ v=true):v.cells=#[v]:=by cases v<;>first|rfl|cases h
theorem ZPX{l:List Value}:ZJU l=true↔∀ v∈l,ZGZ v=true:=by
 induction l with
 | nil=>simp[ZJU]
 | cons x l B=>simp[ZJU,B]
theorem ZDf(M:ZA3 P t=some n)(O:∃ d,P.underlying t=some d){a:Addr}(hl:cs.length=n)(D:∀ j v,cs[j]?=some v->w.cell? (a.add j)=some v)(E:ZCc P t=false->n=1):
 (loadVar t a).run P w=.ok (if ZCc P t then .agg cs.toArray else cs.getD 0 undef) w:=by
 obtain⟨d,H⟩:=O;unfold loadVar;simp only[Sem.run_bind,ZH8 H,Result.andThen_ok];cases I:ZCc P t with
 | true=>
   simp only[Yp,Sem.run_bind,ZB9 M,Result.andThen_ok];rw[<-hl,run_loadCells_list (P:=P) w a cs D];rfl
 | false=>
   have Q:=E I;have B:cs.length=1:=by omega
   obtain⟨v,rfl⟩:∃ v,cs=[v]:=by
    match cs,B with
    | [v],_=>exact⟨v,rfl⟩
   have:=D 0 v rfl;rw[show a.add 0=a from rfl]at this;simp only[Wb,WR,run_load,this];rfl
def wrW(w:World)(a:Addr):Nat->List Value->World
 | _,[]=>w
 | i,v::l=>wrW (w.setCell (a.add i) v) a (i+1) l
theorem ZBp(a:Addr):∀ (vs:List Value) (i:Nat) (w:World),(∀ j,j<vs.length->(∃ v,w.cell? (a.add (i+j))=some v)/\w.frozen? (a.add (i+j))=false)->(∀ v∈vs,ZGZ v=true)->
 (storeCells a vs i).run P w=.ok () (wrW w a i vs):=by
 intro vs;induction vs with
 | nil=>intro i w _ _;rfl
 | cons v l M=>
   intro i w E H;obtain⟨⟨u,B⟩,h2⟩:=E 0 (by simp);simp only[Vq]at B h2;unfold storeCells;rw[Sem.run_bind,run_store P w (a.add i) v .plain (ZKV (H v (by simp)))];simp only[B,h2,Wb,WR,Result.andThen_ok,wrW];refine M (i+1) (w.setCell (a.add i) v) ?_ (λx I=>H x (Xq _ I));intro j Q;obtain⟨⟨O,D⟩,h2'⟩:=E (j+1) (by simp;omega);rw[show i+1+j=i+(j+1) by omega];refine⟨?_,by rw[World.frozen?_setCell];exact h2'⟩;by_cases e:a.add i=a.add (i+(j+1))
   .rw [<-e];exact⟨v,World.cell?_setCell_same w _ v B⟩
   .exact ⟨O,by rw[World.cell?_setCell_other w _ _ v e];exact D⟩
theorem ZOk(a:Addr):∀ (vs:List Value) (i:Nat) (w:World),ZGj w (wrW w a i vs):=by
 intro vs;induction vs with
 | nil=>intro i w;exact ZGj.refl w
 | cons v l B=>intro i w;exact ZGj.trans (b:=w.setCell (a.add i) v) ⟨rfl,rfl,rfl⟩ (B _ _)
theorem ZNS(a:Addr):∀ (vs:List Value) (i:Nat) (w:World) (k:Nat),k≠a.block->(wrW w a i vs).heap[k]?=w.heap[k]?:=by
 intro vs;induction vs with
 | nil=>intro i w k _;rfl
 | cons v l E=>
   intro i w k B;have D:(a.add i).block=a.block:=by unfold Addr.add;split<;>rfl
   rw[wrW,E _ _ k B,World.heap_setCell,Xd (by rw[D];exact B)]
theorem ZLR(a:Addr)(i:Nat):(a.add i).block=a.block:=by unfold Addr.add;split<;>rfl
theorem Zag(a:Addr):∀ (vs:List Value) (i:Nat) (h:Hp) (w:World),h.le w->(h.wrs a i vs).le (wrW w a i vs):=by
 intro vs;induction vs with
 | nil=>intro i h w hl;exact hl
 | cons v l B=>intro i h w hl;exact B _ _ _ (Hp.setCell_le hl _ _)
theorem ZHE(a:Addr):∀ (vs:List Value) (i:Nat) (h:Hp) (b:Nat),(h.wrs a i vs) b=none↔h b=none:=by
 intro vs;induction vs with
 | nil=>intro i h b;exact Iff.rfl
 | cons v l B=>intro i h b;rw[Hp.wrs,B,Hp.setCell_none]
theorem ZR7(b o:Nat):∀ (vs:List Value) (i:Nat) (cs:List Value) (w:World) (e:TypeId),w.heap[b]?=some (.cells cs.toArray e (0,0))->o+i+vs.length<=cs.length->
 (wrW w ⟨b,o,none⟩ i vs).heap[b]?=some (.cells (ZE9 cs (o+i) vs).toArray e (0,0)):=by
 intro vs;induction vs with
 | nil=>intro i cs w e D _;simpa[wrW,ZE9]using D
 | cons v l I=>
   intro i cs w e D hl;simp only[XI]at hl;rw[wrW,ZEv];have B:(w.setCell ⟨b,o+i,none⟩ v).heap[b]?=some (.cells (cs.set (o+i) v).toArray e (0,0)):=by rw[World.heap_setCell,Xe rfl,D];simp[ZOi]
   rw[I (i+1) _ _ e B (by simp;omega)];congr 2;congr 1;unfold ZE9;have E:o+i<cs.length:=by omega
   apply YX;intro j;simp only[List.getElem?_append,List.getElem?_take,Xk,Xp,Wr,List.getElem?_set,XI];rw[show min (o+(i+1)) cs.length=o+i+1 by omega,show min (o+i) cs.length=o+i by omega];by_cases B:j<o+i
   .simp [B,show j<o+i+1 by omega,show j<o+(i+1) by omega,show ¬(o+i=j) by omega]
   .by_cases h2:j=o+i
    .subst h2;simp[E]
    .simp only[B,show ¬(j<o+i+1) by omega,WR];rw[show j-(o+i)=(j-(o+i+1))+1 by omega];simp only[Nat.add_lt_add_iff_right,Yh];by_cases H:j-(o+i+1)<l.length
     .simp [H]
     .simp only[H,WR];rw[Xd (by omega)];congr 1;omega
def Did(P:Program)(o:Oper)(a:Act)(w:World)(a':Act)(w':World):Prop:=
 (∃ v,(execOp a.eval o).run P w=.ok (.value v) w'/\a'=a.put o.dst v)\/((execOp a.eval o).run P w=.ok .skip w'/\a'=a.put o.dst undef)
def ZAN(A:Ann)(N:Nat)(P:Program)(o:Oper)(env:Env)(a:Act)(h fr:Hp)(w0 w:World)(k:EV->Prop):Prop:=
 ∃ ev bx' a' w',k ev/\Rel A N bx' (put A env (ZA9 A o) ev) a' h fr w0 w'/\Did P o a w a' w'
variable {k:EV->Prop}{ev:EV}
theorem ZAN.val(R:Rel A N bx env a h fr w0 w)(B:A.good)(D:∀ k,o.dst=some k->k<N)(E:ZA9 A o=o.dst)(I:(execOp a.eval o).run P w=.ok (.value v) w)(M:ZbE A bx env o.dst ev v)(H:k ev):ZAN A N P o env a h fr w0 w k:=
 ⟨ev,bx,a.put o.dst v,w,H,E▸R.put B D M,.inl ⟨v,I,rfl⟩⟩
theorem ZAN.moveL(R:Rel A N bx env a h fr w0 w)(E:A.good)(H:∀ k,o.dst=some k->k<N)(I:ZA9 A o=o.dst)(M:(execOp a.eval o).run P w=.ok (.value (a.eval x)) w)(B:Eng.moveL A o.dst (look A env x) k):ZAN A N P o env a h fr w0 w k:=by
 unfold Eng.moveL at B;cases hl:look A env x with
 | v v=>rw[hl]at B;exact ZAN.val R E H I M (ev:=.val v) (R.eval_v hl).symm B
 | r t off cs=>
   rw[hl]at B;obtain⟨Q,S,_⟩:=R.eval_r hl;cases D:o.dst with
   | none=>rw[D]at B;exact ZAN.val R E H I M (ev:=.unk) trivial B
   | some d=>
     rw[D]at B;dsimp only at B;cases O:ZAg (A.refOf d) t with
     | true=>
       rw[O]at B;exact ZAN.val R E H I M (ev:=.ref off) ⟨d,t,D,ZBM.1 O,⟨cs,S⟩,Q⟩ B
     | false=>rw[O]at B;exact ZAN.val R E H I M (ev:=.unk) trivial B
 | no=>rw[hl]at B;exact ZAN.val R E H I M (ev:=.unk) trivial B
theorem ZAN.refTo(R:Rel A N bx env a h fr w0 w)(H:A.good)(M:∀ k,o.dst=some k->k<N)(O:ZA9 A o=o.dst){t:Nat}(I:env t=.box cs)(Q:(execOp a.eval o).run P w=.ok (.value (.pointer (some ⟨bx t,off,none⟩))) w)(B:Eng.refTo A o.dst t off k):ZAN A N P o env a h fr w0 w k:=by
 unfold Eng.refTo at B;cases D:o.dst with
 | none=>rw[D]at B;exact B.elim
 | some d=>
   rw[D]at B;dsimp only at B;cases E:ZAg (A.refOf d) t with
   | true=>
     rw[E]at B;exact ZAN.val R H M O Q (ev:=.ref off) ⟨d,t,D,ZBM.1 E,⟨cs,I⟩,rfl⟩ B
   | false=>rw[E]at B;exact B.elim
theorem ZAp(R:Rel A N bx env a h fr w0 w):∀ {xs:List Operand} {vs:List Value},ZIh (look A env) xs=some vs->xs.map a.eval=vs:=by
 intro xs;induction xs with
 | nil=>intro vs B;simp[ZIh]at B;subst B;rfl
 | cons x l E=>
   intro vs B;unfold ZIh at B;split at B
   .rename_i v D;split at B
    .rename_i H hl;cases B;simp[R.eval_v D,E hl]
    .cases B
   .cases B
theorem ZGc(R:Rel A N bx env a h fr w0 w):∀ {xs:List (Nat×Operand)} {vs:List (Nat×Value)},ZDQ (look A env) xs=some vs->xs.map (fun (i,x)=>(i,a.eval x))=vs:=by
 intro xs;induction xs with
 | nil=>intro vs B;simp[ZDQ]at B;subst B;rfl
 | cons x l E=>
   intro vs B;obtain⟨i,x⟩:=x;unfold ZDQ at B;split at B
   .rename_i v D;split at B
    .rename_i H hl;cases B;simp[R.eval_v D,E hl]
    .cases B
   .cases B
theorem ZOs(B:ZIl P t xs off=some v):(part t xs.toArray off).run P w=.ok v w:=by
 unfold ZIl at B;cases hi:P.info? t with
 | none=>rw[hi]at B;cases B
 | some i=>
   rw[hi]at B;simp only at B;cases D:P.underlying t with
   | none=>rw[D]at B;cases B
   | some d=>
     rw[D]at B;have E:ZA3 P t=some i.size:=by simp[ZA3,hi]
     unfold part;simp only[Sem.run_bind,ZH8 D,Result.andThen_ok,ZCc,D]
     cases d<;>simp only[Wb,WR,Yp]at B⊢<;>
      first
       | (rw[show (xs.toArray)[off]?=xs[off]? from by simp,B];rfl)
       | (simp only[Sem.run_bind,ZB9 E,Result.andThen_ok]
          cases B
          simp)
theorem ZGQ:∀ {d:Nat} {t:TypeId},ZU6 P d t=true->∀ n,d<=n->P.eqGuardType n t=false:=by
 intro d;induction d with
 | zero=>intro t h;cases h
 | succ d B=>
   intro t h n E;obtain⟨m,rfl⟩:∃ m,n=m+1:=⟨n-1,by omega⟩
   unfold ZU6 at h;unfold Program.eqGuardType;split at h
   .rename_i e;simp[e]
   .rename_i e;simp[e]
   .rename_i e;simp[e]
   .rename_i fs e;simp only[e];simp only[Xf,Wn]at h;rw[Array.any_eq_false];intro i hi;have:=h.2 fs[i] (by simp);simp[B this.2 m (by omega)]
   .rename_i n' e D;simp only[D];exact B h m (by omega)
   .cases h
theorem ZGV(d:Nat)(t e:TypeId)(len n:Nat)(xs ys:List Value)(M:P.underlying t=some (.array len e))(I:ZA3 P e=some n)(f:TypeId->Value->Value->Option Bool)(H:∀ x y r,f e x y=some r->∀ w,(Op.equalIn d e x y).run P w=.ok r w)(B:ZaV P f e n xs ys (List.range len)=some r):
 (Op.equalIn (d+1) t (.agg xs.toArray) (.agg ys.toArray)).run P w=.ok r w:=by
 simp only[Op.equalIn,Sem.run_bind,Zg M,Result.andThen_ok,ZB9 I];rw[Std.Legacy.Range.forIn_eq_forIn_range'];simp only[Std.Legacy.Range.size,Yz,Ui,Nat.div_one];rw[<-List.range_eq_range'];generalize List.range len=D at B;induction D generalizing r with
 | nil=>simp[ZaV]at B;subst B;simp
 | cons i D S=>
   unfold ZaV at B;split at B
   ·rename_i x y O Q;split at B
    ·rename_i U V E h2;cases B;simp only[List.forIn_cons,Sem.run_bind,ZOs O,ZOs Q,Result.andThen_ok,H _ _ _ E w,Sem.run_ite];cases U with
     | false=>simp
     | true=>
       simp only[Bool.not_true,Wb,WR,Sem.run_pure,Result.andThen_ok,Wq];exact S h2
    .cases B
   .cases B
theorem ZMA(d:Nat)(xs ys:List Value)(f:TypeId->Value->Value->Option Bool):∀ (fs:List Field) (r:Bool),
 (∀ g∈fs,g.name ≠ "_" /\ ∀ x y r,f g.type x y=some r->∀ w,(Op.equalIn d g.type x y).run P w=.ok r w)->
 ZYo P f xs ys fs=some r->(Op.eqFields d xs.toArray ys.toArray fs).run P w=.ok r w:=by
 intro fs
 induction fs with
 | nil=>intro r _ hr;simp[ZYo]at hr;subst hr;simp[Op.eqFields]
 | cons g gs ih=>
   intro r hg hr
   have hone:∃ x y r1 r2,ZIl P g.type xs g.offset=some x/\ZIl P g.type ys g.offset=some y/\f g.type x y=some r1/\ZYo P f xs ys gs=some r2/\r=(r1&&r2):=by
    cases gs with
    | nil=>
      simp only[ZYo]at hr
      split at hr
      .rename_i x y hx hy;exact⟨x,y,r,true,hx,hy,hr,rfl,by simp⟩
      .cases hr
    | cons g' gs=>
      simp only[ZYo]at hr
      split at hr
      .rename_i x y hx hy
       split at hr
       .rename_i r1 r2 h1 h2;cases hr;exact⟨x,y,r1,r2,hx,hy,h1,h2,rfl⟩
       .cases hr
      .cases hr
   obtain⟨x,y,r1,r2,hx,hy,h1,h2,rfl⟩:=hone
   obtain⟨hn,hf⟩:=hg g (by simp)
   rw[Op.eqFields]
   simp only[Xe hn,Sem.run_bind,ZOs hx,ZOs hy,hf _ _ _ h1 w,Result.andThen_ok]
   cases r1 with
   | false=>simp
   | true=>simpa using ih r2 (λg hg'=>hg g (Xq _ hg')) h2
variable {x:Value}
theorem ZVY(h:eqI x y=some r):∃ j a b,x=.int j a/\y=.int j b/\r=(a==b):=by
 unfold eqI at h;split at h
 .rename_i j a D b;split at h
  .rename_i B;have B:=Ww B;subst B;cases h;exact⟨j,a,b,rfl,rfl,rfl⟩
  .cases h
 .cases h
theorem ZWt(h:eqB x y=some r):∃ a b,x=.bool a/\y=.bool b/\r=(a==b):=by
 unfold eqB at h;split at h
 .cases h;exact⟨_,_,rfl,rfl,rfl⟩
 .cases h
theorem ZVj(h:eqS x y=some r):∃ a b,x=.string a/\y=.string b/\r=(a.toList==b.toList):=by
 unfold eqS at h;split at h
 .cases h;exact⟨_,_,rfl,rfl,rfl⟩
 .cases h
theorem ZBr(h:ZCs x=some xs):x=.agg xs.toArray:=by
 unfold ZCs at h;split at h
 .cases h;simp
 .cases h
theorem ZTG:∀ {d:Nat} {t:TypeId},ZU6 P d t=true->∀ {x y:Value} {r:Bool} {m:Nat},eqV P d t x y=some r->d<=m->∀ w,(Op.equalIn m t x y).run P w=.ok r w:=by
 intro d;induction d with
 | zero=>intro t h;cases h
 | succ d O=>
   intro t D x y r m B S w;obtain⟨m,rfl⟩:∃ n,m=n+1:=⟨m-1,by omega⟩
   unfold ZU6 at D;unfold eqV at B;split at D
   .rename_i k e;rw[e]at B;obtain⟨j,a,b,rfl,rfl,rfl⟩:=ZVY B;exact run_equalIn_int w m t j k a b e
   .rename_i e;rw[e]at B;obtain⟨a,b,rfl,rfl,rfl⟩:=ZWt B;exact run_equalIn_bool' w m t _ _ e
   .rename_i e;rw[e]at B;obtain⟨a,b,rfl,rfl,rfl⟩:=ZVj B;exact run_equalIn_string w m t _ _ e
   .rename_i fs e;rw[e]at B;simp only[Xf,Ym,Wn]at D;dsimp only at B;split at B
    .rename_i xs ys E H;rw[ZBr E,ZBr H];have M:P.fieldsOf t=fs:=by simp[Program.fieldsOf,e]
     rw[run_equalIn_struct (P:=P) w m t _ _ (by rw[M];exact e) D.1,M];refine ZMA m xs ys (eqV P d) fs.toList r (λg Q=>?_) B;have:=D.2 g Q;exact⟨by simpa using this.1,λx y r h w=>O this.2 h (by omega) w⟩
    .cases B
   .rename_i n e I;rw[I]at B;dsimp only at B;split at B
    .rename_i xs ys E H;rw[ZBr E,ZBr H];split at B
     .rename_i i hi;exact ZGV m t e n i.size xs ys I (by simp[ZA3,hi]) (eqV P d) (λx y r h w=>O D h (by omega) w) B
     .cases B
    .cases B
   .cases D
def ZbT(A:Ann)(P:Program):Prop:=∀ t,A.eqs t=true->ZU6 P 20 t=true
def ZcT(P:Program):Prop:=∀ (g:Nat) (fn:Func),P.funcs[g]?=some fn->(fn.name == "runtime.NumGoroutine")=false
theorem ZOz(d:Nat)(B:P.underlying t=some (.pointer e))(p:Option Addr):(Op.equalIn (d+1) t (.pointer p) (.pointer none)).run P w=.ok p.isNone w:=by cases p<;>simp[Op.equalIn,Zg B]
theorem ZRR(d:Nat)(D:P.underlying t=some (.slice e))(p:Option Addr)(l c l' B:Nat):(Op.equalIn (d+1) t (.slice p l c) (.slice none l' B)).run P w=.ok p.isNone w:=by cases p<;>simp[Op.equalIn,Zg D]
theorem ZUl(V:ZbT A P)(I:20<=P.depth)(B:ZZ7 A P op t x y k):
 ∃ v,((do eqGuard op t ox oy x y;binOp op t x y:Sem Value)).run P w=.ok v w/\k (.val v):=by
 unfold ZZ7 at B
 split at B
 ·
  rename_i j a W b
  have M:(eqGuard op t ox oy (.int j a) (.int W b)).run P w=.ok () w:=by cases op<;>simp[eqGuard]
  cases op<;>simp only[Sem.run_bind,M,Result.andThen_ok]at B⊢
  case shl=>
   obtain⟨O,B⟩:=B
   exact⟨_,by simp only[binOp,Op.shift,Xd (show ¬b<0 by omega)];rfl,B⟩
  case shr=>
   obtain⟨O,B⟩:=B
   exact⟨_,by simp only[binOp,Op.shift,Xd (show ¬b<0 by omega)];rfl,B⟩
  all_goals
   split at B
   .exact B.elim
   ·rename_i Q
    have Q:=Ww Q
    subst Q
    first
     | exact⟨_,by simp only[binOp,ne_eq,not_true_eq_false,WR];rfl,B⟩
     | (obtain⟨O,B⟩:=B
        exact⟨_,by simp only[binOp,ne_eq,not_true_eq_false,WR,Op.intDiv,Xd O];rfl,B⟩)
 .rename_i a b
  split at B
  .rename_i E
   exact⟨_,by simp only[Sem.run_bind,eqGuard,binOp,Op.equal,Op.maxDepth];simp[run_equalIn_bool w 9999 t a b E],B⟩
  .rename_i E
   exact⟨_,by simp only[Sem.run_bind,eqGuard,binOp,Op.equal,Op.maxDepth];simp[run_equalIn_bool w 9999 t a b E],B⟩
  .exact B.elim
 .rename_i a b
  split at B
  .exact ⟨_,by simp[eqGuard,binOp,Op.stringOp];rfl,B⟩
  .exact ⟨_,by simp[eqGuard,binOp,Op.stringOp];rfl,B⟩
  .exact B.elim
 .rename_i p
  split at B
  .rename_i e E
   refine⟨_,?_,B⟩
   have D:=ZOz (P:=P) (w:=w) 9999 E p
   simp only[Sem.run_bind,eqGuard,binOp,Op.equal,Op.maxDepth]
   simp[D]
  .rename_i e E
   refine⟨_,?_,B⟩
   have D:=ZOz (P:=P) (w:=w) 9999 E p
   simp only[Sem.run_bind,eqGuard,binOp,Op.equal,Op.maxDepth]
   simp[D]
  .exact B.elim
 .rename_i p l c l' U
  split at B
  .rename_i e E
   refine⟨_,?_,B⟩
   have D:=ZRR (P:=P) (w:=w) 9999 E p l c l' U
   simp only[Sem.run_bind,eqGuard,binOp,Op.equal,Op.maxDepth]
   simp[D]
  .rename_i e E
   refine⟨_,?_,B⟩
   have D:=ZRR (P:=P) (w:=w) 9999 E p l c l' U
   simp only[Sem.run_bind,eqGuard,binOp,Op.equal,Op.maxDepth]
   simp[D]
  .exact B.elim
 ·rename_i xs ys
  cases D:A.eqs t with
  | false=>rw[D]at B;exact B.elim
  | true=>
    rw[D]at B
    simp only[XL]at B
    have H:=V t D
    have M:∀ op,(eqGuard op t ox oy (.agg xs) (.agg ys)).run P w=.ok () w:=λop=>
     run_eqGuard_agg w op t ox oy xs ys (ZGQ H _ I)
    split at B
    .rename_i r S
     refine⟨_,?_,B⟩
     simp only[Sem.run_bind,M,Result.andThen_ok]
     rw[run_eql_struct,ZTG H S (by omega) w];rfl
    .rename_i r S
     refine⟨_,?_,B⟩
     simp only[Sem.run_bind,M,Result.andThen_ok]
     rw[run_neq_struct,ZTG H S (by omega) w];rfl
    .exact B.elim
 .exact B.elim
theorem ZQJ(cs:Array Value)(o n:Nat):cs.extract o (o+n)=((cs.toList.drop o).take n).toArray:=by cases cs;simp
theorem ZQc{cs:Array Value}(I:ZA3 P t=some n)(M:∃ d,P.underlying t=some d)(B:ZJl (ZCc P t) n cs.toList off k):∃ v,(part t cs off).run P w=.ok v w/\k (.val v):=by
 obtain⟨d,H⟩:=M;unfold ZJl at B;unfold part;simp only[Sem.run_bind,ZH8 H,Result.andThen_ok];cases E:ZCc P t with
 | true=>
   rw[E]at B;dsimp only at B;cases D:Nat.ble (off+n) cs.toList.length with
   | false=>rw[D]at B;exact B.elim
   | true=>
     rw[D]at B;exact⟨_,by simp only[Yp,Sem.run_bind,ZB9 I,Result.andThen_ok,ZQJ];rfl,B⟩
 | false=>
   rw[E]at B;dsimp only at B;split at B
   .rename_i v O;refine⟨v,?_,B⟩;rw[show cs[off]?=some v by simpa using O];simp
   .exact B.elim
def ZXV(P:Program):Prop:=∀ t n,ZA3 P t=some n->∃ d,P.underlying t=some d
theorem ZB2{K:Nat->Nat->Prop}(B:Z3 len cap lo hi K):
 ∃ l m,(Instr.sliceBounds isS len cap (lo.map (.int kl)) (hi.map (.int kh)) none).run P w=.ok (l,m,cap) w/\K l m:=by
 have I:∀ (k:IntKind) (i:Int) (y:Nat) (D:BoundsCode),0<=i->i<=y->(Instr.sliceBound (.int k i) y D).run P w=.ok i.toNat w:=by intro k i y D E H;unfold Instr.sliceBound;simp only[asIntOf,Sem.run_bind,Sem.run_pure,Result.andThen_ok,Xe (And.intro E H)]
 unfold Z3 at B;unfold Instr.sliceBounds;cases hi with
 | none=>
   cases lo with
   | none=>exact⟨0,len,by simp,B⟩
   | some i=>
     obtain⟨E,H,B⟩:=B;exact⟨i.toNat,len,by simp[I kl i len _ E H],B⟩
 | some j=>
   cases lo with
   | none=>
     obtain⟨E,H,B⟩:=B;exact⟨0,j.toNat,by simp[I kh j cap _ E H],B⟩
   | some i=>
     obtain⟨E,H,h2,B⟩:=B;exact⟨i.toNat,j.toNat,by simp[I kh j cap _ (by omega) h2,I kl i j.toNat _ E (by omega)],B⟩
theorem ZLc{j:Int}{K:Nat->Nat->Nat->Prop}(D:ZIp cap lo j m K):
 ∃ l h' m',(Instr.sliceBounds isS len cap (lo.map (.int kl)) (some (.int kh j)) (some (.int km m))).run P w=.ok (l,h',m') w/\K l h' m':=by
 have E:∀ (k:IntKind) (i:Int) (y:Nat) (B:BoundsCode),0<=i->i<=y->(Instr.sliceBound (.int k i) y B).run P w=.ok i.toNat w:=by intro k i y B M H;unfold Instr.sliceBound;simp only[asIntOf,Sem.run_bind,Sem.run_pure,Result.andThen_ok,Xe (And.intro M H)]
 unfold ZIp at D;unfold Instr.sliceBounds;obtain⟨H,h2,I,D⟩:=D;cases lo with
 | none=>exact⟨0,j.toNat,m.toNat,by simp[E km m cap _ (by omega) H,E kh j m.toNat _ I (by omega)],D⟩
 | some i=>
   obtain⟨O,Q,D⟩:=D;exact⟨i.toNat,j.toNat,m.toNat,by simp[E km m cap _ (by omega) H,E kh j m.toNat _ I (by omega),E kl i j.toNat _ O (by omega)],D⟩
structure ZGz (P:Program) (A:Ann):Prop where
 good:A.good
 eqs:ZbT A P
 dep:20<=P.depth
 noNG:ZcT P
 formed:ZXV P
theorem ZP9(fs:Array Field)(D:fs.all (λf=>(ZA3 P f.type).isSome)=true)(w:World):
 (fs.mapM (λf=>(do pure (f.offset,<-sizeOf f.type):Sem (Nat×Nat)))).run P w=.ok (fs.map λf=>(f.offset,P.cellsOf f.type)) w:=by
 obtain⟨l⟩:=fs;rw[List.mapM_toArray];simp only[Array.all_eq_true_iff_forall_mem,List.mem_toArray]at D
 have:∀ (l:List Field),(∀ f∈l,(ZA3 P f.type).isSome=true)->(l.mapM (λf=>(do pure (f.offset,<-sizeOf f.type):Sem (Nat×Nat)))).run P w=.ok (l.map λf=>(f.offset,P.cellsOf f.type)) w:=by
  intro l;induction l with
  | nil=>intro _;rfl
  | cons f l H=>
    intro hl;obtain⟨n,B⟩:=Vg.1 (hl f (by simp));simp only[VX,Sem.run_bind,ZB9 B,Result.andThen_ok,Sem.run_pure,H (λg E=>hl g (Xq _ E)),XS,ZMw B]
 rw[Sem.run_map,this l D];simp
theorem ZOK(D:w.heap[b]?=some (.cells cs.toArray e (0,0)))(_hl:off+n<=cs.length):
 ∀ j v,((cs.drop off).take n)[j]?=some v->w.cell? ((⟨b,off,none⟩:Addr).add j)=some v:=by
 intro j v B;rw[ZEv,ZBu D];rw[List.getElem?_take]at B;split at B
 .rw [Wr]at B;simpa using B
 .cases B
theorem ZZr(I:ZGz P A)(R:Rel A N bx env a h fr w0 w)(Q:∀ k,o.dst=some k->k<N)(hc:cls A P o=.p)(B:opP A P o (look A env) k):ZAN A N P o env a h fr w0 w k:=by
 obtain⟨dst,op,type,pos,after,guard⟩:=o
 have U:(∀ t x y,op≠.store t x y)->ZA9 A ⟨dst,op,type,pos,after,guard⟩=dst:=by
  intro hs
  cases op<;>first|rfl|exact absurd rfl (hs _ _ _)
 cases op
 case move x=>exact ZAN.moveL R I.good Q (U (by simp)) (x:=x) rfl B
 case assign x=>exact ZAN.moveL R I.good Q (U (by simp)) (x:=x) rfl B
 case pick c x y=>
  simp only[opP]at B
  split at B
  .rename_i t ht
   have e:=R.eval_v ht
   cases t with
   | true=>exact ZAN.moveL R I.good Q (U (by simp)) (x:=x) (by simp[execOp,e,asBool]) B
   | false=>exact ZAN.moveL R I.good Q (U (by simp)) (x:=y) (by simp[execOp,e,asBool]) B
  .exact B.elim
 case alloc elem=>
  simp only[opP]at B
  simp only[cls]at hc
  cases dst with
  | none=>cases hc
  | some d=>
    cases hp:A.isProm d with
    | false=>simp[hp]at hc
    | true=>
      split at B
      .rename_i z hz
       refine⟨_,_,_,_,B,R.newBox I.good (Q d rfl) hp z.cells.toList elem,.inl ⟨.pointer (some ⟨w.heap.size,0,none⟩),?_,rfl⟩⟩
       simp[execOp,Instr.alloc,ZDc hz,newVar,newRow]
      .exact B.elim
 case box elem x=>
  simp only[opP]at B
  simp only[cls]at hc
  cases dst with
  | none=>cases hc
  | some d=>
    cases hp:A.isProm d with
    | false=>simp[hp]at hc
    | true=>
      split at B
      .rename_i z hz
       refine⟨_,_,_,_,B,R.newBox I.good (Q d rfl) hp z.cells.toList elem,.inl ⟨.pointer (some ⟨w.heap.size,0,none⟩),?_,rfl⟩⟩
       simp[execOp,Instr.box,R.eval_v hz,newVar,newRow]
      .exact B.elim
 case build t ps=>
  simp only[opP]at B
  split at B
  ·rename_i l z fs hl hz H
   have hl':=ZGc R hl
   split at B
   ·rename_i cs hf
    unfold Zan at hf
    refine ZAN.val R I.good Q (U (by simp)) (v:=.agg cs) (ev:=.val (.agg cs)) ?_ rfl B
    cases W:fs.all (λf=>(ZA3 P f.type).isSome) with
    | false=>rw[W]at hf;cases hf
    | true=>
      rw[W]at hf
      simp only[XL]at hf
      have hps:ps.map (λx=>(x.1,a.eval x.2))=l.toArray:=WM (by simp[<-hl'])
      simp only[execOp,Instr.build,Sem.run_bind,ZDc hz,Zg H,Result.andThen_ok,ZP9 fs W]
      simp only[hps,Array.getElem?_map]
      rw[hf];rfl
   .exact B.elim
  ·rename_i l z n e hl hz H
   have hl':=ZGc R hl
   split at B
   ·rename_i cs hf
    unfold ZbM at hf
    refine ZAN.val R I.good Q (U (by simp)) (v:=.agg cs) (ev:=.val (.agg cs)) ?_ rfl B
    cases W:ZA3 P e with
    | none=>rw[W]at hf;cases hf
    | some n'=>
      rw[W]at hf
      dsimp only at hf
      have hps:ps.map (λx=>(x.1,a.eval x.2))=l.toArray:=WM (by simp[<-hl'])
      simp only[execOp,Instr.build,Sem.run_bind,ZDc hz,Zg H,Result.andThen_ok,ZB9 W]
      simp only[hps]
      rw[hf];rfl
   .exact B.elim
  .exact B.elim
 case nilCheck x=>
  simp only[opP]at B
  split at B
  .rename_i p O
   cases p with
   | none=>exact B.elim
   | some ad=>
   exact ZAN.val R I.good Q (U (by simp)) (v:=.pointer (some ad)) (ev:=.val _) (by simp[execOp,R.eval_v O]) rfl B
  .rename_i f p q O
   exact ZAN.val R I.good Q (U (by simp)) (v:=.func (.func f) p q) (ev:=.val _) (by simp[execOp,R.eval_v O]) rfl B
  .rename_i t off cs O
   obtain⟨e1,e2,_⟩:=R.eval_r O
   exact ZAN.refTo R I.good Q (U (by simp)) e2 (by simp[execOp,e1]) B
  .exact B.elim
 case binOp op t x y ty=>
  simp only[opP]at B
  split at B
  .rename_i u v H hv
   obtain⟨r,hr,B⟩:=ZUl (w:=w) (ox:=x) (oy:=y) I.eqs I.dep B
   exact ZAN.val R I.good Q (U (by simp)) (v:=r) (ev:=.val r) (by simp only[execOp,R.eval_v H,R.eval_v hv];rw[Sem.run_bind,hr];rfl) rfl B
  .exact B.elim
 case unOp op t x=>
  simp only[opP]at B
  split at B
  .rename_i j n O
   exact ZAN.val R I.good Q (U (by simp)) (v:=.int j (j.wrap (0-n))) (ev:=.val _) (by simp[execOp,R.eval_v O,Op.unary,Op.intArith]) rfl B
  .rename_i b O
   exact ZAN.val R I.good Q (U (by simp)) (v:=.bool (!b)) (ev:=.val _) (by simp[execOp,R.eval_v O,Op.unary]) rfl B
  .exact B.elim
 case convert s d x=>
  simp only[opP]at B
  split at B
  .rename_i j1 j j2 n hs hd' O
   exact ZAN.val R I.good Q (U (by simp)) (v:=.int j (j.wrap n)) (ev:=.val _) (by simp[execOp,R.eval_v O,convert,Zg hs,Zg hd',Conv.intToInt]) rfl B
  .exact B.elim
 case makeInterface t x=>
  simp only[opP]at B
  split at B
  .exact B.elim
  .rename_i d v hne H O
   refine ZAN.val R I.good Q (U (by simp)) (v:=.iface t v) (ev:=.val _) ?_ rfl B
   simp only[execOp,Instr.makeInterface,R.eval_v O,Sem.run_bind,Zg H,Result.andThen_ok]
   cases d<;>first|rfl|(exfalso;simp at hne)
  .exact B.elim
 case makeFunc fn first captured=>
  simp only[opP]at B
  split at B
  .rename_i l m hl hm
   refine ZAN.val R I.good Q (U (by simp)) (v:=.func fn l.toArray m.toArray) (ev:=.val _) ?_ rfl B
   have S:=ZAp R hl
   have h2:=ZAp R hm
   simp only[execOp,Instr.makeFunc]
   rw[show Array.map a.eval first=l.toArray from WM (by simp[<-S]),show Array.map a.eval captured=m.toArray from WM (by simp[<-h2])]
   rfl
  .exact B.elim
 case fieldAddr s x f=>
  simp only[opP]at B
  split at B
  ·rename_i fs H
   split at B
   ·rename_i fd hf
    split at B
    ·rename_i n hn
     have hrun:∀ ad:Addr,(Instr.fieldAt s (.pointer (some ad)) f).run P w=.ok (.pointer (some (ad.add fd.offset))) w:=by
          intro ad
          simp[Instr.fieldAt,Zg H,hf,Instr.sureAddr,fieldPlace,ZB9 hn]
     split at B
     .rename_i ad O
      exact ZAN.val R I.good Q (U (by simp)) (v:=.pointer (some (ad.add fd.offset))) (ev:=.val _) (by simp[execOp,R.eval_v O,hrun]) rfl B
     .rename_i t off cs O
      obtain⟨e1,e2,_⟩:=R.eval_r O
      exact ZAN.refTo R I.good Q (U (by simp)) e2 (by simp only[execOp,e1,Sem.run_bind,hrun,ZEv];rfl) B
     .exact B.elim
    .exact B.elim
   .exact B.elim
  .exact B.elim
 case field s x f=>
  simp only[opP]at B
  split at B
  ·rename_i fs H
   split at B
   .rename_i fd hf
    split at B
    .rename_i n cs hn O
     obtain⟨v,hr,B⟩:=ZQc (w:=w) hn (I.formed _ _ hn) B
     exact ZAN.val R I.good Q (U (by simp)) (v:=v) (ev:=.val v) (by simp[execOp,Instr.field,R.eval_v O,Zg H,hf,asAgg,hr]) rfl B
    .exact B.elim
   .exact B.elim
  .exact B.elim
 case load t x=>
  simp only[opP]at B
  split at B
  ·rename_i n bt off cs hn O
   obtain⟨e1,e2,_⟩:=R.eval_r O
   have hs:=R.slot bt
   rw[e2]at hs
   obtain⟨_,⟨e,M⟩,_,_⟩:=hs
   have H:=I.formed _ _ hn
   obtain⟨d,hd'⟩:=H
   cases hdy:ZQ7 A x with
   | true=>
     rw[hdy]at B
     simp only[XL]at B
     split at B
     ·rename_i c hcd
      cases hft:ZAz P c t with
      | false=>rw[hft]at B;exact B.elim
      | true=>
        rw[hft]at B
        simp only[XL]at B
        obtain⟨y,hy,B⟩:=B
        simp only[ZAz,Xf,hn,ZFc]at hft
        obtain⟨⟨hmem,hag⟩,hnn⟩:=hft
        have hag:c.agg=ZCc P t:=by simpa using hag
        have hform:=c.form hmem y
        refine ZAN.val R I.good Q (U (by simp)) (v:=c.enc y) (ev:=.val _) ?_ rfl B
        simp only[execOp,Instr.loadAt,Instr.sureAddr,e1,Sem.run_bind]
        have hrd:∀ j v,(c.enc y).cells.toList[j]?=some v->w.cell? ((⟨bx bt,off,none⟩:Addr).add j)=some v:=by
           intro j v hj
           rw[ZEv,ZBu M]
           simpa using hy j v hj
        cases hg:c.agg with
        | true=>
          rw[hg]at hform
          obtain⟨xs,hxs,hlen,_⟩:=hform
          rw[hxs]at hrd⊢
          have:=ZDf (P:=P) (w:=w) hn ⟨d,hd'⟩ (cs:=xs) (by omega) (by simpa[Value.cells]using hrd) (by rw[<-hag,hg];simp)
          simp only[Sem.run_pure,Result.andThen_ok]
          rw[this,<-hag,hg];rfl
        | false=>
          rw[hg]at hform
          obtain⟨hone,hn1⟩:=hform
          rw[ZFf hone]at hrd
          have:=ZDf (P:=P) (w:=w) hn ⟨d,hd'⟩ (cs:=[c.enc y]) (by simp;omega) hrd (by intro;omega)
          simp only[Sem.run_pure,Result.andThen_ok]
          rw[this,<-hag,hg];rfl
     .exact B.elim
   | false=>
     rw[hdy]at B
     simp only[Yu]at B
     unfold ZJl at B
     cases hg:ZCc P t with
     | true=>
       rw[hg]at B
       dsimp only at B
       cases hl:Nat.ble (off+n) cs.length with
       | false=>rw[hl]at B;exact B.elim
       | true=>
         rw[hl]at B
         have hl:off+n<=cs.length:=Wi hl
         refine ZAN.val R I.good Q (U (by simp)) (v:=.agg ((cs.drop off).take n).toArray) (ev:=.val _) ?_ rfl B
         have:=ZDf (P:=P) (w:=w) hn ⟨d,hd'⟩ (cs:=(cs.drop off).take n) (by simp;omega) (ZOK M hl) (by rw[hg];simp)
         simp only[execOp,Instr.loadAt,Instr.sureAddr,e1,Sem.run_bind,Sem.run_pure,Result.andThen_ok,this,hg]
         rfl
     | false=>
       rw[hg]at B
       dsimp only at B
       split at B
       .rename_i v hv
        refine ZAN.val R I.good Q (U (by simp)) (v:=v) (ev:=.val v) ?_ rfl B
        have hlt:=(Xi.1 hv).1
        simp only[execOp,Instr.loadAt,Instr.sureAddr,e1,Sem.run_bind,Sem.run_pure,Result.andThen_ok,loadVar,ZH8 hd',hg,Wb,WR]
        rw[run_load,ZBu M,show cs.toArray[off]?=some v by simpa using hv]
        rfl
       .exact B.elim
  .exact B.elim
 case store t x y=>
  simp only[opP]at B
  split at B
  ·rename_i n bt off cs v hn O hy
   obtain⟨e1,e2,s,rfl,hs⟩:=R.eval_r O
   have heff:ZA9 A ⟨none,.store t (.tmp s) y,type,pos,after,guard⟩=some bt:=by
    simp only[ZA9]
    rcases hs with ⟨rfl,_,hp⟩|⟨hr,_⟩
    .simp [hp]
    .simp [I.good _ _ hr,hr]
   have hpb:A.isProm bt=true:=R.prom _ _ e2
   have hslot:=R.slot bt
   rw[e2]at hslot
   obtain⟨_,⟨e,M⟩,_,_⟩:=hslot
   cases W:(Nat.beq v.cells.size n&&ZJU v.cells.toList) with
   | false=>rw[W]at B;exact B.elim
   | true=>
     rw[W]at B
     simp only[XL]at B
     simp only[Xf,ZFc,ZPX]at W
     obtain⟨W,hones⟩:=W
     -- the common end
     have fin:∀ cs':List Value,off+v.cells.toList.length<=cs.length->cs'=ZE9 cs off v.cells.toList->k (.box cs')->
          ZAN A N P ⟨none,.store t (.tmp s) y,type,pos,after,guard⟩ env a h fr w0 w k:=by
         intro cs' hl hcs B
         have hrun:=ZBp (P:=P) ⟨bx bt,off,none⟩ v.cells.toList 0 w (λj hj=>by
          rw[ZEv,ZBu M,ZIe M]
          refine⟨?_,rfl⟩
          have:off+(0+j)<cs.length:=by omega
          exact⟨cs[off+(0+j)],by simp⟩) hones
         obtain⟨env',rfl,R'⟩:=R.setBox I.good e2 (w':=wrW w ⟨bx bt,off,none⟩ 0 v.cells.toList) (cs':=cs')
          ⟨e,by rw[ZR7 (bx bt) off _ 0 cs w e M (by omega),hcs];rfl⟩ (λk B=>ZNS _ _ _ _ _ B) (ZOk _ _ _ _)
         refine⟨.box cs',bx,a,wrW w ⟨bx bt,off,none⟩ 0 v.cells.toList,B,?_,.inr ⟨?_,rfl⟩⟩
         ·rw[heff]
          -- forget the addresses in it
          refine⟨R'.size,R'.defers,R'.hle,R'.frle,R'.dj,R'.same,?_,?_,?_⟩
          ·intro u
           by_cases eu:u=bt
           .subst eu;rw[ZCP];have:=R'.slot u;simp only[Yp]at this;exact this
           ·rcases ZBn (A:=A) (env:=env) (EV.box cs') eu with h'|⟨h',_,_⟩
            ·rw[h']
             have:=R'.slot u
             simp only[Xd eu]at this
             cases H:env u with
             | val z=>rw[H]at this;exact this
             | box z=>rw[H]at this;exact this
             | ref off'=>
               rw[H]at this
               obtain⟨t',hr',ht',ds,hb'⟩:=this
               refine⟨t',hr',ht',ds,?_⟩
               by_cases et:t'=bt
               ·subst et
                exfalso
                have:put A env (some t') (.box cs') u=.unk:=by
                   simp only[put,ZUY.2 eu,Yu,hpb,hr',ZAg,ZFc.2 rfl,Ug,XL]
                rw[this]at h';rw[<-h']at H;cases H
               .replace hb':(if t'=bt then EV.box cs' else env t')=.box ds:=hb'
                rw[Xd et]at hb'
                rcases ZBn (A:=A) (env:=env) (EV.box cs') et with h2|⟨_,_,h3⟩
                .rw [h2];exact hb'
                .have:=I.good _ _ h3;rw[R.prom _ _ hb']at this;cases this
             | unk=>trivial
            .rw [h'];trivial
          .intro u ds H
           by_cases eu:u=bt
           .subst eu;exact hpb
           .rcases ZBn (A:=A) (env:=env) (EV.box cs') eu with h'|⟨h',_,_⟩
            .rw [h']at H;exact R.prom _ _ H
            .rw [h']at H;cases H
          ·intro u u' ds ds' H hu' hbb
           have back:∀ z zs,put A env (some bt) (.box cs') z=.box zs->∃ zs',env z=.box zs':=by
             intro z zs hz
             by_cases ez:z=bt
             .subst ez;exact⟨_,e2⟩
             .rcases ZBn (A:=A) (env:=env) (EV.box cs') ez with h'|⟨h',_,_⟩
              .rw [h']at hz;exact⟨_,hz⟩
              .rw [h']at hz;cases hz
           obtain⟨_,g1⟩:=back u ds H
           obtain⟨_,g2⟩:=back u' ds' hu'
           exact R.inj _ _ _ _ g1 g2 hbb
         .simp only[execOp,Instr.storeAt,Instr.sureAddr,e1,R.eval_v hy,Sem.run_bind,Sem.run_pure,Result.andThen_ok,storeVar,ZB9 hn]
          rw[Xd (by simp[W])]
          simp only[hrun,Result.andThen_ok]
     cases hdy:ZQ7 A (.tmp s) with
     | true=>
       rw[hdy]at B
       simp only[XL]at B
       split at B
       .rename_i c hcd
        obtain⟨hl,z,hz,B⟩:=B
        exact fin _ hl hz B
       .exact B.elim
     | false=>
       rw[hdy]at B
       simp only[Yu]at B
       cases hl:Nat.ble (off+n) cs.length with
       | false=>rw[hl]at B;exact B.elim
       | true=>
         rw[hl]at B
         have hl:=Wi hl
         exact fin _ (by simp;omega) rfl B
  .exact B.elim
 case indexAddr t x ix=>
  simp only[opP]at B
  split at B
  .rename_i e j i H hi
   have ei:=R.eval_v hi
   split at B
   .rename_i n b len cap hn O
    obtain⟨h0,S,B⟩:=B
    cases b with
    | none=>exact B.elim
    | some ad=>
    refine ZAN.val R I.good Q (U (by simp)) (v:=.pointer (some (ad.add (i.toNat*n)))) (ev:=.val _) ?_ rfl B
    simp[execOp,Instr.indexAt,ei,R.eval_v O,asIntOf,Zg H,h0,S,ZB9 hn]
   .exact B.elim
  .rename_i len e j i H hi
   have ei:=R.eval_v hi
   split at B
   .rename_i n ad hn O
    obtain⟨h0,S,B⟩:=B
    refine ZAN.val R I.good Q (U (by simp)) (v:=.pointer (some (ad.add (i.toNat*n)))) (ev:=.val _) ?_ rfl B
    simp[execOp,Instr.indexAt,ei,R.eval_v O,asIntOf,Zg H,Instr.sureAddr,h0,S,ZB9 hn]
   .rename_i n bt off cs hn O
    obtain⟨h0,S,B⟩:=B
    obtain⟨e1,e2,_⟩:=R.eval_r O
    refine ZAN.refTo R I.good Q (U (by simp)) e2 ?_ B
    simp[execOp,Instr.indexAt,ei,e1,asIntOf,Zg H,Instr.sureAddr,h0,S,ZB9 hn,ZEv]
   .exact B.elim
  .exact B.elim
 case index t x ix=>
  simp only[opP]at B
  split at B
  .rename_i s j i H O hi
   obtain⟨h0,S,B⟩:=B
   refine ZAN.val R I.good Q (U (by simp)) (v:=.int .u8 ((s.data.getD i.toNat 0).toNat:Int)) (ev:=.val _) ?_ rfl B
   have hlt:i.toNat<s.size:=by omega
   have hg:s[i.toNat]?=some (s.data.getD i.toNat 0):=by
    have h2:i.toNat<s.data.size:=hlt
    rw[getElem?_pos s i.toNat hlt]
    unfold Array.getD;rw[dif_pos h2];rfl
   simp[execOp,Instr.index,R.eval_v hi,R.eval_v O,asIntOf,Zg H,h0,hg]
  .exact B.elim
 case slice t x lo hi mx=>
  simp only[opP]at B
  have D:∀ {o:Option Operand} {l:Option LV} ,o.map (look A env)=l->(l=none->o.map a.eval=none)/\(∀ v,l=some (.v v)->o.map a.eval=some v):=by
   intro o l ho
   cases o with
   | none=>exact⟨λ_=>rfl,λv hv=>(by rw[hv]at ho;cases ho)⟩
   | some y=>
     refine⟨λhl=>(by rw[hl]at ho;cases ho),λv hv=>?_⟩
     rw[hv]at ho
     have hy:look A env y=.v v:=YV ho
     simp[R.eval_v hy]
  split at B
  ·rename_i e p len cap H O
   split at B
   .exact B.elim
   ·rename_i n hn
    have E:∀ (Z Y vmx:Option Value) (l m c:Nat),lo.map a.eval=Z->hi.map a.eval=Y->mx.map a.eval=vmx->
          (Instr.sliceBounds true len cap Z Y vmx).run P w=.ok (l,m,c) w->k (.val (.slice (Zh p l c n) (m-l) (c-l)))->ZAN A N P ⟨dst,.slice t x lo hi mx,type,pos,after,guard⟩ env a h fr w0 w k:=by
         intro Z Y vmx l m c e1 e2 e3 M B
         refine ZAN.val R I.good Q (U (by simp)) (v:=.slice (Zh p l c n) (m-l) (c-l)) (ev:=.val _) ?_ rfl B
         simp only[execOp,Instr.sliceAt,R.eval_v O,Sem.run_bind,Zg H,Result.andThen_ok,Instr.slice,e1,e2,e3,M,ZB9 hn]
         rfl
    split at B
    .rename_i S h2 h3
     obtain⟨l,m,M,B⟩:=ZB2 (P:=P) (w:=w) (kl:=.i64) (kh:=.i64) (isS:=true) B
     exact E _ _ _ l m cap ((D S).1 rfl) ((D h2).1 rfl) ((D h3).1 rfl) M B
    .rename_i j i S h2 h3
     obtain⟨l,m,M,B⟩:=ZB2 (P:=P) (w:=w) (kl:=j) (kh:=.i64) (isS:=true) B
     exact E _ _ _ l m cap ((D S).2 _ rfl) ((D h2).1 rfl) ((D h3).1 rfl) M B
    .rename_i j i S h2 h3
     obtain⟨l,m,M,B⟩:=ZB2 (P:=P) (w:=w) (kl:=.i64) (kh:=j) (isS:=true) B
     exact E _ _ _ l m cap ((D S).1 rfl) ((D h2).2 _ rfl) ((D h3).1 rfl) M B
    .rename_i j i j' i' S h2 h3
     obtain⟨l,m,M,B⟩:=ZB2 (P:=P) (w:=w) (kl:=j) (kh:=j') (isS:=true) B
     exact E _ _ _ l m cap ((D S).2 _ rfl) ((D h2).2 _ rfl) ((D h3).1 rfl) M B
    .rename_i j i j' i' j'' i'' S h2 h3
     obtain⟨l,m,c,M,B⟩:=ZLc (P:=P) (w:=w) (len:=len) (kl:=j) (kh:=j') (km:=j'') (isS:=true) B
     exact E _ _ _ l m c ((D S).2 _ rfl) ((D h2).2 _ rfl) ((D h3).2 _ rfl) M B
    .rename_i j' i' j'' i'' S h2 h3
     obtain⟨l,m,c,M,B⟩:=ZLc (P:=P) (w:=w) (len:=len) (kl:=.i64) (kh:=j') (km:=j'') (isS:=true) B
     exact E _ _ _ l m c ((D S).1 rfl) ((D h2).2 _ rfl) ((D h3).2 _ rfl) M B
    .exact B.elim
  ·rename_i s H O
   have E:∀ (Z Y:Option Value) (l m:Nat),lo.map a.eval=Z->hi.map a.eval=Y->mx=none->
         (Instr.sliceBounds false s.size s.size Z Y none).run P w=.ok (l,m,s.size) w->k (.val (.string (s.extract l m)))->ZAN A N P ⟨dst,.slice t x lo hi mx,type,pos,after,guard⟩ env a h fr w0 w k:=by
    intro Z Y l m e1 e2 e3 M hk2
    clear B
    subst e3
    refine ZAN.val R I.good Q (U (by simp)) (v:=.string (s.extract l m)) (ev:=.val _) ?_ rfl hk2
    simp only[execOp,Instr.sliceAt,R.eval_v O,Sem.run_bind,Zg H,Result.andThen_ok,Instr.slice,e1,e2,Option.map_none,Option.isSome_none,Wb,WR,M]
    rfl
   split at B
   .rename_i j i S h2
    obtain⟨l,m,M,B⟩:=ZB2 (P:=P) (w:=w) (kl:=j) (kh:=.i64) (isS:=false) B
    exact E _ _ l m ((D S).2 _ rfl) ((D h2).1 rfl) rfl M B
   .rename_i j i S h2
    obtain⟨l,m,M,B⟩:=ZB2 (P:=P) (w:=w) (kl:=.i64) (kh:=j) (isS:=false) B
    exact E _ _ l m ((D S).1 rfl) ((D h2).2 _ rfl) rfl M B
   .rename_i j i j' i' S h2
    obtain⟨l,m,M,B⟩:=ZB2 (P:=P) (w:=w) (kl:=j) (kh:=j') (isS:=false) B
    exact E _ _ l m ((D S).2 _ rfl) ((D h2).2 _ rfl) rfl M B
   .exact B.elim
  ·rename_i n e ad H O
   split at B
   .exact B.elim
   ·rename_i z hz
    have E:∀ (Z Y:Option Value) (l m:Nat),lo.map a.eval=Z->hi.map a.eval=Y->mx=none->
          (Instr.sliceBounds false n n Z Y none).run P w=.ok (l,m,n) w->k (.val (.slice (Zh (some ad) l n z) (m-l) (n-l)))->ZAN A N P ⟨dst,.slice t x lo hi mx,type,pos,after,guard⟩ env a h fr w0 w k:=by
         intro Z Y l m e1 e2 e3 M hk2
         clear B
         subst e3
         refine ZAN.val R I.good Q (U (by simp)) (v:=.slice (Zh (some ad) l n z) (m-l) (n-l)) (ev:=.val _) ?_ rfl hk2
         have hc:(if n=l then some ad else some (ad.add (l*z)))=Zh (some ad) l n z:=by unfold Zh;split<;>rfl
         simp only[execOp,Instr.sliceAt,R.eval_v O,Sem.run_bind,Zg H,Result.andThen_ok,Instr.sureAddr,Sem.run_pure,e1,e2,Option.map_none,M,ZB9 hz]
         rw[<-hc]
         split<;>rfl
    split at B
    .rename_i S h2
     obtain⟨l,m,M,B⟩:=ZB2 (P:=P) (w:=w) (kl:=.i64) (kh:=.i64) (isS:=false) B
     exact E _ _ l m ((D S).1 rfl) ((D h2).1 rfl) rfl M B
    .rename_i j i S h2
     obtain⟨l,m,M,B⟩:=ZB2 (P:=P) (w:=w) (kl:=j) (kh:=.i64) (isS:=false) B
     exact E _ _ l m ((D S).2 _ rfl) ((D h2).1 rfl) rfl M B
    .rename_i j i S h2
     obtain⟨l,m,M,B⟩:=ZB2 (P:=P) (w:=w) (kl:=.i64) (kh:=j) (isS:=false) B
     exact E _ _ l m ((D S).1 rfl) ((D h2).2 _ rfl) rfl M B
    .rename_i j i j' i' S h2
     obtain⟨l,m,M,B⟩:=ZB2 (P:=P) (w:=w) (kl:=j) (kh:=j') (isS:=false) B
     exact E _ _ l m ((D S).2 _ rfl) ((D h2).2 _ rfl) rfl M B
    .exact B.elim
  .exact B.elim
 case extract x i=>
  simp only[opP]at B
  split at B
  .rename_i vs O
   split at B
   .rename_i v hv
    exact ZAN.val R I.good Q (U (by simp)) (v:=v) (ev:=.val v) (by simp[execOp,Instr.extract,R.eval_v O,hv]) rfl B
   .exact B.elim
  .exact B.elim
 case call c=>
  simp only[opP]at B
  obtain⟨callee,args,ats⟩:=c
  dsimp only at B
  split at B
  .rename_i t v h2 h3
   have hv:=ZAp R h3
   have V:args.map a.eval=#[v]:=WM (by simpa using hv)
   split at B
   .rename_i s H
    exact ZAN.val R I.good Q (U (by simp)) (v:=.int .i64 (s.size:Int)) (ev:=.val _) (by simp[execOp,resolve,invoke,builtin,V,Builtin.len_,h2,Zg H,goInt]) rfl B
   .rename_i n u H
    exact ZAN.val R I.good Q (U (by simp)) (v:=.int .i64 (n:Int)) (ev:=.val _) (by simp[execOp,resolve,invoke,builtin,V,Builtin.len_,h2,Zg H,goInt]) rfl B
   .rename_i e b n c H
    exact ZAN.val R I.good Q (U (by simp)) (v:=.int .i64 (n:Int)) (ev:=.val _) (by simp[execOp,resolve,invoke,builtin,V,Builtin.len_,h2,Zg H,goInt]) rfl B
   .exact B.elim
  .rename_i j x j' y h3
   have hv:=ZAp R h3
   have V:args.map a.eval=#[.int j x,.int j' y]:=WM (by simpa using hv)
   exact ZAN.val R I.good Q (U (by simp)) (v:=.int j (ZGd x y)) (ev:=.val _) (by simp[execOp,resolve,invoke,builtin,V,Builtin.min_,Builtin.min2,ZGd]) rfl B
  .rename_i j x j' y h3
   have hv:=ZAp R h3
   have V:args.map a.eval=#[.int j x,.int j' y]:=WM (by simpa using hv)
   exact ZAN.val R I.good Q (U (by simp)) (v:=.int j (ZQq x y)) (ev:=.val _) (by simp[execOp,resolve,invoke,builtin,V,Builtin.max_,Builtin.max2,ZQq]) rfl B
  .exact B.elim
 all_goals (simp only[cls]at hc;cases hc)
theorem ZVF(hl:h.le w)(D:h.rds ad cs):∀ j v,cs[j]?=some v->w.cell? (ad.add j)=some v:=
 λj v B=>Hp.cell?_le hl (D j v B)
variable {c:Cdc}
theorem ZON(Y:ZGz P A)(U:ZAz P c t=true){y:c.T}(Q:∀ j v,(c.enc y).cells.toList[j]?=some v->w.cell? (ad.add j)=some v):
 (loadVar t ad).run P w=.ok (c.enc y) w:=by
 simp only[ZAz,Xf]at U;obtain⟨⟨I,D⟩,E⟩:=U;cases M:ZA3 P t with
 | none=>rw[M]at E;cases E
 | some n=>
   rw[M]at E;have E:=ZFc.1 E;have D:c.agg=ZCc P t:=by simpa using D
   have B:=c.form I y;have W:=Y.formed _ _ M;cases H:c.agg with
   | true=>
     rw[H]at B;obtain⟨xs,S,V,_⟩:=B;rw[S]at Q⊢;have:=ZDf (P:=P) (w:=w) M W (cs:=xs) (by omega) (by simpa[Value.cells]using Q) (by rw[<-D,H];simp);rw[this,<-D,H];rfl
   | false=>
     rw[H]at B;obtain⟨O,Z⟩:=B;rw[ZFf O]at Q;have:=ZDf (P:=P) (w:=w) M W (cs:=[c.enc y]) (by simp;omega) Q (by intro;omega);rw[this,<-D,H];rfl
theorem ZYm(a:Addr)(xs:List Int)(len cap:Nat)(B:xs.length=len)(E:∀ j v,(ZD6 xs)[j]?=some v->w.cell? (a.add j)=some v):
 (Conv.bytesToString (.slice (some a) len cap)).run P w=.ok (.string (ZKM xs)) w:=by
 have D:=run_loadCells_list (P:=P) w a (ZD6 xs) E;rw[show (ZD6 xs).length=len by simp[ZD6,B]]at D;exact run_bytesToString w a len cap xs D
theorem Zaz(Y:ZGz P A)(R:Rel A N bx env a h fr w0 w)(B:opR A P o (look A env) h k):
 ∃ v,k (.val v)/\(execOp a.eval o).run P w=.ok (.value v) w:=by
 obtain⟨dst,op,type,pos,after,guard⟩:=o;cases op<;>simp only[opR]at B<;>try exact B.elim
 case load t x=>
  split at B
  ·rename_i c ad hc U
   cases Q:ZAz P c t with
   | false=>rw[Q]at B;exact B.elim
   | true=>
     rw[Q]at B;obtain⟨y,hy,B⟩:=B;refine⟨c.enc y,B,?_⟩;simp only[execOp,Instr.loadAt,R.eval_v U,Instr.sureAddr,Sem.run_bind,Sem.run_pure,Result.andThen_ok,ZON Y Q (ZVF R.hle hy)]
  .exact B.elim
 case convert s d x=>
  split at B
  ·rename_i e p len cap hs Z U
   split at B
   ·rename_i H
    have I:∀ st,(Conv.bytesToString (.slice p len cap)).run P w=.ok (.string st) w->(execOp a.eval ⟨dst,.convert s d x,type,pos,after,guard⟩).run P w=.ok (.value (.string st)) w:=by intro st S;simp only[execOp,convert,R.eval_v U,Sem.run_bind,Zg hs,Zg Z,Result.andThen_ok];rw[Zg H];simp[S]
    cases p with
    | none=>exact⟨_,B,I _ (by simp[Conv.bytesToString])⟩
    | some ad=>
      obtain⟨xs,hl,hr,B⟩:=B;exact⟨_,B,I _ (ZYm ad xs len cap hl (ZVF R.hle hr))⟩
   .exact B.elim
  .exact B.elim
 case call c=>
  obtain⟨M,args,ats⟩:=c
  dsimp only at B
  split at B
  ·rename_i t r h2 W
   have hv:=ZAp R W
   have E:args.map a.eval=#[.chan r]:=WM (by simpa using hv)
   cases D:ZRK P t with
   | false=>rw[D]at B;exact B.elim
   | true=>
     rw[D]at B;simp only[XL]at B;unfold ZRK at D;cases H:P.underlying t with
     | none=>rw[H]at D;cases D
     | some d=>
       rw[H]at D;cases d<;>first|cases D|skip
       cases r with
       | none=>exact⟨_,B,by simp[execOp,resolve,invoke,builtin,E,Builtin.len_,h2,Zg H,goInt]⟩
       | some r=>
         obtain⟨cap,O,V,s,r',hh,B⟩:=B;have hw:=R.hle _ _ hh;refine⟨_,B,?_⟩;have hg:(getObj r).run P w=.ok (.chan cap O V s r' false) w:=by simp[getObj,Sem.run,hw]
         simp[execOp,resolve,invoke,builtin,E,Builtin.len_,h2,Zg H,goInt,hg]
  .exact B.elim
theorem ZPw(B:zs.length=sz):∀ (n i:Nat),i<n*sz->(Z0 n zs)[i]?=zs[i % sz]?:=by
 intro n;induction n with
 | zero=>intro i hi;omega
 | succ n D=>
   intro i hi;show (zs++Z0 n zs)[i]?=_;rw[Wx,Vs]at hi;by_cases h:i<sz
   .rw [XR (by omega),YO h]
   .rw [XJ (by omega),B,D (i-sz) (by omega),<-Vz (by omega)]
theorem ZQQ(B:zs.length=sz)(n:Nat):(Z0 n zs).length=n*sz:=by
 induction n with
 | zero=>simp[Z0]
 | succ n D=>
   show (zs++Z0 n zs).length=_;rw[Xg,D,B,Wx,Vs,VN]
theorem ZHc{z:Array Value}(B:z.size=sz)(n:Nat):madeCells z (n*sz)=(Z0 n z.toList).toArray:=by
 apply WM;apply YX;intro i;by_cases hi:i<n*sz
 .have D:0<sz:=Uh (by rintro rfl;omega);rw[show (Z0 n z.toList).toArray.toList=Z0 n z.toList from rfl,ZPw (sz:=sz) (by simpa using B) n i hi];have E:i % sz<z.size:=by rw[B];exact VM _ D
  simp only[madeCells,Array.toList_map,Array.toList_range,Yf,B];rw[List.getElem?_range hi];simp[E]
 .rw [XP (by simp[madeCells];omega),XP (by rw[show (Z0 n z.toList).toArray.toList=Z0 n z.toList from rfl,ZQQ (sz:=sz) (by simpa using B)];omega)]
theorem ZaG(hP:ZGz P A)(R:Rel A N bx env a h fr w0 w){k:Obj->(Nat->Value)->Prop}(B:opA P o (look A env) k):
 ∃ ob f,k ob f/\(execOp a.eval o).run P w=.ok (.value (f w.heap.size)) (w.alloc ob):=by
 obtain⟨dst,op,type,pos,after,guard⟩:=o;cases op<;>simp only[opA]at B<;>try exact B.elim
 case alloc elem=>
  split at B
  .rename_i z E
   exact⟨_,_,B,by simp[execOp,Instr.alloc,ZDc E,newVar,newRow]⟩
  .exact B.elim
 case box elem x=>
  split at B
  .rename_i z E
   exact⟨_,_,B,by simp[execOp,Instr.box,R.eval_v E,newVar,newRow]⟩
  .exact B.elim
 case buildSlice t len ps=>
  split at B
  ·rename_i e l O hl
   have S:=ZGc R hl
   split at B
   ·rename_i n z U E
    cases D:Nat.ble (len*n) 16777216 with
    | false=>rw[D]at B;exact B.elim
    | true=>
      rw[D]at B;simp only[XL]at B;have D:=Wi D;split at B
      .rename_i cs Q;refine⟨_,_,B,?_⟩;have M:ps.map (λx=>(x.1,a.eval x.2))=l.toArray:=WM (by simp[<-S]);simp only[execOp,Instr.buildSlice,Sem.run_bind,Zg O,Result.andThen_ok,ZB9 U];rw[Xd (by omega)];by_cases I:len*n=0
       .simp only[I,Yp,Sem.run_pure,Result.andThen_ok,Sem.run_bind]at Q⊢;simp only[M];have:(Array.map (λx=>(#[]:Array Value)[x % (#[]:Array Value).size]!) (Array.range 0))=Array.map (λx=>z.cells[x % z.cells.size]!) (Array.range 0):=by simp
        rw[this,Q];simp[newRow]
       .simp only[I,WR,Sem.run_bind,ZDc E,Sem.run_pure,Result.andThen_ok];simp only[M];rw[Q];simp[newRow]
      .exact B.elim
   .exact B.elim
  .exact B.elim
 case makeSlice t l c=>
  split at B
  ·rename_i e Z n km m O hl hc
   split at B
   ·rename_i z E
    cases H:ZEL P e with
    | false=>rw[H]at B;exact B.elim
    | true=>
      rw[H]at B;obtain⟨I,W,h2,h3,B⟩:=B;refine⟨_,_,B,?_⟩;unfold ZEL at H;split at H
      .rename_i i hi;rw[show i.zero=some z from by simpa[ZDh,hi]using E]at H;have V:z.cells.size=i.size:=Wv H;have D:ZA8 P e=i.bytes:=by simp[ZA8,hi]
       rw[D]at h3;have Y:=run_make (P:=P) w t e i z O hi (by simpa[ZDh,hi]using E) Z km n m I W (by omega) (by omega);rw[ZHc V]at Y;simp[execOp,R.eval_v hl,R.eval_v hc,Y]
      .cases H
   .exact B.elim
  .exact B.elim
 case makeChan t n=>
  split at B
  ·rename_i ab e Z n O U
   split at B
   ·rename_i sz hs
    obtain⟨I,W,h2,B⟩:=B
    refine⟨_,_,B,?_⟩
    obtain⟨i,hi,_,D⟩:=ZMi hs
    rw[<-D]at h2
    have n1:¬(n<0\/n>IntKind.i64.max\/(i.bytes:Int)*n>2 ^ 48-112):=by
         have:IntKind.i64.max=9223372036854775807:=by decide
         omega
    simp only[execOp,Instr.makeChan,R.eval_v U,asInt,asIntOf,Sem.run_bind,Sem.run_pure,Result.andThen_ok,Zg O,ZJV hi,Xd n1,run_newObj]
    rfl
   .exact B.elim
  .exact B.elim
 case makeMap t r=>
  split at B
  .refine ⟨_,_,B,?_⟩
   simp only[execOp,Instr.makeMap,Option.map_none,Sem.run_bind,Sem.run_pure,Result.andThen_ok,run_newObj]
   rfl
  .exact B.elim
structure ZAn (h fr h':Hp) (w w':World):Prop where
 hle:h'.le w'
 frle:fr.le w'
 dj:h'.dj fr
 same:ZGj w w'
 keep:∀ b,b<w.heap.size->h b=none->fr b=none->w'.heap[b]?=w.heap[b]?/\h' b=none
def Zcj(P:Program)(o:Oper)(a:Act)(w:World)(h fr:Hp)(k:EV->Hp->Prop):Prop:=
 (∃ ev v h' w',k ev h'/\(ev=.val v\/ev=.unk)/\(execOp a.eval o).run P w=.ok (.value v) w'/\ZAn h fr h' w w')\/
 (∃ h' w',k .unk h'/\(execOp a.eval o).run P w=.ok .skip w'/\ZAn h fr h' w w')\/
 (∃ f args,(execOp a.eval o).run P w=.ok (.enter f args) w/\ZHn P f args h λv h'=>k (.val v) h')\/
 (∃ v h' w' cs,k (.val v) h'/\(execOp a.eval o).run P w=.ok (.comm cs false .select) w/\ZAn h fr h' w w'/\
   ∀ (f:Frame) (l:List Frame) (es:Array Event),stepG P true (Conc.G f l) w=.comm (Conc.G f l) cs false .select w es->step P (Conc.solo (Conc.G f l) w)=.next (Conc.solo (Conc.G (f.finish v) l) w'))
theorem ZAn.wrs(H:h.le w)(B:fr.le w)(dj:h.dj fr)(ad:Addr)(vs:List Value)(D:vs=[]\/h ad.block≠none):
 ZAn h fr (h.wrs ad 0 vs) w (wrW w ad 0 vs):=by
 refine⟨Zag ad vs 0 h w H,?_,?_,ZOk ad vs 0 w,?_⟩
 ·rcases D with rfl|D
  .exact B
  .intro k o E;have:k≠ad.block:=by
    rintro rfl;rcases dj ad.block with e|e
    .exact D e
    .rw [e]at E;cases E
   rw[ZNS ad vs 0 w k this];exact B k o E
 .intro b;rw[ZHE];exact dj b
 .intro b _ I _;refine⟨?_,by rw[ZHE];exact I⟩;rcases D with rfl|D
  .rfl
  .exact ZNS ad vs 0 w b (by rintro rfl;exact D I)
theorem ZAn.alloc(D:h.le w)(B:fr.le w)(dj:h.dj fr)(o:Obj):ZAn h fr (h.upd w.heap.size o) w (w.alloc o):=by refine⟨Hp.upd_le D o,Hp.le_alloc B o,Hp.upd_dj dj (Hp.le_lt B (Xc _)) o,⟨rfl,rfl,rfl⟩,?_⟩;intro b H E _;refine⟨?_,by simp only[Hp.upd,Xd (show b≠w.heap.size by omega)];exact E⟩;show (w.heap.push o)[b]?=_;rw[Vf,Xd (by omega)]
theorem ZAn.refl(D:h.le w)(B:fr.le w)(dj:h.dj fr):ZAn h fr h w w:=⟨D,B,dj,ZGj.refl w,λ_ _ E _=>⟨rfl,E⟩⟩
theorem ZAn.drew(s:ZAn h fr h' w.drew w'):ZAn h fr h' w w':=
 ⟨s.hle,s.frle,s.dj,⟨s.same.os,s.same.tape,s.same.output⟩,s.keep⟩
theorem ZQ9(B:h.le w)(H:h.may ad n):∀ j,j<n->(∃ v,w.cell? (ad.add (0+j))=some v)/\w.frozen? (ad.add (0+j))=false:=by intro j E;obtain⟨⟨v,D⟩,hf⟩:=H j E;rw[Vp];exact⟨⟨v,Hp.cell?_le B D⟩,by rw[Hp.frozen?_le B D];exact hf⟩
theorem ZDT(B:h.may ad n)(D:0<n):h ad.block≠none:=by obtain⟨⟨v,E⟩,_⟩:=B 0 D;have:=Hp.cell_block E;rwa[ZLR]at this
theorem ZAo(H:c.mem=true)(x:c.T):(c.enc x).cells.size=c.n/\∀ v∈(c.enc x).cells.toList,ZGZ v=true:=by
 have B:=c.form H x;cases E:c.agg with
 | true=>
   rw[E]at B;obtain⟨cs,e,hl,D⟩:=B;rw[e];simp only[Value.cells];exact⟨by simpa using hl,by simpa using D⟩
 | false=>
   rw[E]at B;obtain⟨D,I⟩:=B;rw[ZFf D];exact⟨by simp[I],by simpa using D⟩
theorem Zi(D:c.mem=true):∀ xs:List c.T,(ZO c xs).length=xs.length*c.n:=by
 intro xs;induction xs with
 | nil=>simp[ZO]
 | cons x l B=>
   simp only[ZO,Yx,Xg,XI]at B⊢;rw[B,show (c.enc x).cells.toList.length=c.n by simpa using (ZAo D x).1];rw[Wx];omega
theorem ZEg(D:c.mem=true)(xs:List c.T):∀ v∈ZO c xs,ZGZ v=true:=by intro v B;simp only[ZO,List.mem_flatMap]at B;obtain⟨x,_,E⟩:=B;exact(ZAo D x).2 v E
theorem ZSo(B:Nat):∀ (r c:Nat),c<=B->Builtin.growBy B r c<=2*B+192:=by
 intro r;induction r with
 | zero=>intro c D;simp[Builtin.growBy];omega
 | succ r E=>
   intro c D;unfold Builtin.growBy;split
   .omega
   ·by_cases h:c+(c+768) / 4<=B
    .exact E _ h
    .have:Builtin.growBy B r (c+(c+768) / 4)=c+(c+768) / 4:=by
      cases r with
      | zero=>rfl
      | succ r=>unfold Builtin.growBy;rw[Xe (by omega)]
     rw[this];omega
theorem ZEZ(B cap:Nat)(h:cap<B):Builtin.nextslicecap B cap<=2*B+192:=by
 unfold Builtin.nextslicecap;split
 .omega
 .split
  .omega
  .exact ZSo B 4 cap (by omega)
theorem ZCO(H:c.mem=true){b:Option Addr}{K:List c.T->Prop}(E:ZCS c b len h K):
 ∃ xs:List c.T,xs.length=len/\K xs/\∀ (P:Program) (w:World) (cap:Nat),h.le w->(Builtin.firstCells c.n len (.slice b len cap)).run P w=.ok (ZO c xs).toArray w:=by
 cases b with
 | none=>
   obtain⟨rfl,B⟩:=E;exact⟨[],rfl,B,λ_ _ _ _=>rfl⟩
 | some ad=>
   obtain⟨xs,hl,I,B⟩:=E;refine⟨xs,hl,B,λP w cap D=>?_⟩;have:=run_loadCells_list (P:=P) w ad (ZO c xs) (ZVF D I);rw[Zi H,hl]at this;exact this
theorem ZDO(z:Array Value)(n:Nat):(Builtin.zeroCells z n).size=n*z.size:=by simp[Builtin.zeroCells]
variable {K:Option Addr->Nat->Nat->Hp->Prop}
theorem ZQW{u u':TypeId}(ht:ats[0]?=some t)(hu1:ats[1]?=some u)(ht':P.underlying t=some (.slice e))(hu':P.underlying u=some (.slice u'))(hf:ZAz P c e=true)(hb:bytes=ZA8 P e)(hb1:1<=bytes)(hb2:bytes<=1048576)(O:ZEL P e=true)(B:h.le w)(E:fr.le w)(dj:h.dj fr)(hk:ZR c e bytes p len cap q n h K):
 ∃ p' l' c' h' w',K p' l' c' h'/\(Builtin.append_ ats ty #[.slice p len cap,.slice q n cap']).run P w=.ok (.slice p' l' c') w'/\ZAn h fr h' w w':=by
 have U:=hf
 simp only[ZAz,Xf]at U
 obtain⟨⟨hm,_⟩,S⟩:=U
 cases hs:ZA3 P e with
 | none=>rw[hs]at S;cases S
 | some sz=>
   rw[hs]at S
   have S:=ZFc.1 S
   subst S
   obtain⟨i,hi,hi1,hi2⟩:=ZMi hs
   obtain⟨z,O,hzs⟩:∃ z,ZDh P e=some z/\∀ n,ZA3 P e=some n->z.cells.size=n:=by
    unfold ZEL at O
    unfold ZDh ZA3
    split at O
    .rename_i i' hi'
     split at O
     .rename_i z hz'
      exact⟨z,hz',λn h=>by cases h;exact Wv O⟩
     .cases O
    .cases O
   unfold ZR at hk
   obtain⟨ys,hyl,⟨D,hk2⟩,hry0⟩:=ZCO hm hk
   have ab:=hry0 P w cap' B
   have W:=ZEg hm ys
   have I:=Zi hm ys
   have g0:(#[.slice p len cap,.slice q n cap']:Array Value)[0]?=some (.slice p len cap):=rfl
   have g1:(#[.slice p len cap,.slice q n cap']:Array Value)[1]?=some (.slice q n cap'):=rfl
   unfold Builtin.append_
   simp only[ht,hu1,g0,g1,Sem.run_bind,Zg ht',Zg hu',Result.andThen_ok,ZB9 hs,Sem.run_pure,Builtin.lenOf,Wb,WR,Bool.not_false,Yp]
   by_cases hc:len+n<=cap
   ·have D:=D hc
    rw[Xe hc]
    cases p with
    | none=>
      refine⟨_,_,_,h,w,D,?_,ZAn.refl B E dj⟩
      simp[ab]
    | some ad=>
      obtain⟨M,D⟩:=D
      have hsc:=ZBp (P:=P) (ad.add (len*c.n)) (ZO c ys) 0 w (by rw[I,hyl];exact ZQ9 B M) W
      refine⟨_,_,_,_,_,D,?_,ZAn.wrs B E dj (ad.add (len*c.n)) (ZO c ys) ?_⟩
      .simp [ab,hsc]
      .by_cases h0:n*c.n=0
       .left
        apply WK
        rw[I,hyl];exact h0
       .right;exact ZDT M (by omega)
   ·rw[Xd hc]
    obtain⟨H,V⟩:=hk2 (by omega)
    obtain⟨xs,hxl,hK,hrx⟩:=ZCO hm V
    have hb0:i.bytes=bytes:=by rw[hi2,hb]
    have hne:len+n<=ZAW:=XG (VE _ (by omega)) H
    have hcap:Builtin.nextslicecap (len+n) cap*i.bytes<=2 ^ 48:=by
     have h1:=ZEZ (len+n) cap (by omega)
     rw[hb0]
     calc Builtin.nextslicecap (len+n) cap*bytes<=(2*(len+n)+192)*bytes:=Xr _ h1
         _=2*((len+n)*bytes)+192*bytes:=by rw[Wx,Vh]
         _<=2 ^ 48:=by unfold ZAW at H;omega
    have hg1:¬(((len+n:Nat):Int)>IntKind.i64.max/\i.bytes=0):=by rintro⟨_,h0⟩;omega
    -- the tape's answer
    obtain⟨Q,hnc,hch⟩:∃ Q,len+n<=Q/\(choose (.appendCap (len+n) cap e)).run P w=.ok Q w.drew:=by
     refine⟨_,?_,by rw[run_choose];simp only[Question.forced,Wb,WR];rfl⟩
     simp only[Question.cut];omega
    have Y:(Builtin.zeroCells z.cells (Q-(len+n))).toList.length=(Q-(len+n))*c.n:=by
     simp[ZDO,hzs c.n hs]
    have hK:=hK Q (Builtin.zeroCells z.cells (Q-(len+n))).toList hnc Y w.heap.size (Hp.le_lt B (Xc _))
    have Z:=hrx P w.drew cap B
    have ac:=hry0 P w.drew cap' B
    refine⟨_,_,_,_,_,hK,?_,ZAn.drew (ZAn.alloc (w:=w.drew) B E dj _)⟩
    simp only[ZJV hi,Sem.run_bind,Result.andThen_ok,Sem.run_ite,false_or]
    rw[Xd hg1]
    simp only[Sem.run_pure]
    rw[Xd (by omega)]
    simp only[Sem.run_pure,Result.andThen_ok,hch,run_askRoom,Z,ac,ZDc O,newRow,Sem.run_bind,run_newObj]
    congr 3
    simp
theorem ZUw(ht:ats[0]?=some t)(Z:P.underlying t=some (.slice e))(hf:ZAz P c e=true){K:Int->Hp->Prop}(B:h.le w)(D:fr.le w)(dj:h.dj fr)(I:ZBN c p len q n h K):
 ∃ m h' w',K m h'/\(Builtin.copy_ ats ty #[.slice p len cap,.slice q n cap']).run P w=.ok (.int .i64 m) w'/\ZAn h fr h' w w':=by
 simp only[ZAz,Xf]at hf;obtain⟨⟨U,_⟩,M⟩:=hf;cases W:ZA3 P e with
 | none=>rw[W]at M;cases M
 | some sz=>
   rw[W]at M;have M:=ZFc.1 M;subst M;unfold ZBN at I;obtain⟨ys,S,I,Q⟩:=ZCO U I;have V:(Builtin.firstCells c.n (min n len) (.slice q n cap')).run P w=.ok (ZO c ys).toArray w:=by
    have:=Q P w cap' B;cases q with
    | none=>exact this
    | some ad=>exact this
   have O:=ZEg U ys;have E:=Zi U ys;have g0:(#[.slice p len cap,.slice q n cap']:Array Value)[0]?=some (.slice p len cap):=rfl;have g1:(#[.slice p len cap,.slice q n cap']:Array Value)[1]?=some (.slice q n cap'):=rfl;unfold Builtin.copy_;simp only[ht,g0,g1,Sem.run_bind,Zg Z,Result.andThen_ok,ZB9 W,Sem.run_pure,Builtin.lenOf];rw[show Nat.min n len=min n len from rfl,V];simp only[Result.andThen_ok];cases p with
   | none=>exact⟨_,h,w,I,by simp[goInt],ZAn.refl B D dj⟩
   | some ad=>
     obtain⟨H,I⟩:=I;have Y:=ZBp (P:=P) ad (ZO c ys) 0 w (by rw[E,S];exact ZQ9 B H) O;refine⟨_,_,_,I,by simp[Y,goInt],ZAn.wrs B D dj ad (ZO c ys) ?_⟩;by_cases h0:min n len*c.n=0
     .left;apply WK;rw[E,S];exact h0
     .right;exact ZDT H (by omega)
theorem ZD7{x:c.T}(I:c.mem=true)(Q:z=c.enc x)(n:Nat):(Builtin.zeroCells z.cells n).toList=ZO c (List.replicate n x):=by
 subst Q;have B:=(ZAo I x).1;apply YX;intro i;have hl:=Zi I (List.replicate n x);simp only[XX]at hl;by_cases hi:i<n*c.n
 ·have D:0<c.n:=Uh (by rintro O;rw[O]at hi;omega)
  have key:∀ n i,i<n*c.n->(ZO c (List.replicate n x))[i]?=(c.enc x).cells[i % c.n]?:=by
   intro n;induction n with
   | zero=>intro i hi;omega
   | succ n M=>
     intro i hi;rw[Ud];simp only[ZO,Yx]at M⊢;by_cases H:i<c.n
     .rw [XR (by simpa[B]using H),YO H];simp
     .rw [XJ (by simp[B];omega)];simp only[Yn,B];have E:i-c.n<n*c.n:=by rw[Wx]at hi;omega
      rw[M (i-c.n) E,<-Vz (by omega)]
  rw[key n i hi];have h2:i % c.n<(c.enc x).cells.size:=by rw[B];exact VM _ D
  simp[Builtin.zeroCells,B,hi];rw[getElem!_pos (c.enc x).cells _ h2,getElem?_pos (c.enc x).cells _ h2]
 .rw [XP (by simp[ZDO,B];omega),XP (by omega)]
theorem ZUv{u:TypeId}{k:IntKind}(ht:ats[0]?=some t)(hu1:ats[1]?=some u)(ht':P.underlying t=some (.slice e))(hu':P.underlying u=some (.int k))(hf:ZAz P c e=true)(hb:bytes=ZA8 P e)(hb1:1<=bytes)(hb2:bytes<=1048576){z:c.T}(aq:ZDh P e=some zv)(ar:zv=c.enc z){j:IntKind}{n:Int}(E:h.le w)(H:fr.le w)(dj:h.dj fr)(hk:ZHV c z e bytes p len cap n h K):
 ∃ p' l' c' h' w',K p' l' c' h'/\(Builtin.append_ ats ty #[.slice p len cap,.int j n]).run P w=.ok (.slice p' l' c') w'/\ZAn h fr h' w w':=by
 have Z:=hf
 simp only[ZAz,Xf]at Z
 obtain⟨⟨U,_⟩,V⟩:=Z
 cases hs:ZA3 P e with
 | none=>rw[hs]at V;cases V
 | some sz=>
   rw[hs]at V
   have V:=ZFc.1 V
   subst V
   obtain⟨i,hi,hi1,hi2⟩:=ZMi hs
   obtain⟨h0,ab,D,hk2⟩:=hk
   have Y:i.bytes=bytes:=by rw[hi2,hb]
   have hnr:n.toNat<=ZAW:=XG (VE _ (by omega)) ab
   have hnl:n<=1099511627776:=by unfold ZAW at hnr;omega
   have hwr:IntKind.i64.wrap n=n:=by rw[IntKind.wrap_i64];omega
   have ac:¬(n*(i.bytes:Int)>2 ^ 48):=by
    have:(n.toNat:Int)*(bytes:Int)<=(ZAW:Int):=by exact_mod_cast ab
    rw[show (n.toNat:Int)=n by omega]at this
    rw[Y]
    unfold ZAW at this
    omega
   have g0:(#[.slice p len cap,.int j n]:Array Value)[0]?=some (.slice p len cap):=rfl
   have g1:(#[.slice p len cap,.int j n]:Array Value)[1]?=some (.int j n):=rfl
   have ap:∀ m,(Builtin.zeroCells zv.cells m).toList=ZO c (List.replicate m z):=λm=>ZD7 U ar m
   have hzs:zv.cells.size=c.n:=by rw[ar];exact(ZAo U z).1
   have O:asInt (.int j n)=pure n:=rfl
   -- what is appended
   have Q:∀ w:World,((if n.toNat*c.n=0 then pure #[] else do pure (Builtin.zeroCells (<-zeroValue e).cells n.toNat):Sem (Array Value))).run P w=.ok (ZO c (List.replicate n.toNat z)).toArray w:=by
    intro w
    by_cases M:n.toNat*c.n=0
    ·rw[Xe M]
     have:ZO c (List.replicate n.toNat z)=[]:=by
         apply WK
         rw[Zi U];simpa using M
     rw[this];rfl
    .rw [Xd M]
     simp only[Sem.run_bind,ZDc aq,Result.andThen_ok,Sem.run_pure]
     rw[<-ap]
   have aj:=ZEg U (List.replicate n.toNat z)
   have B:=Zi U (List.replicate n.toNat z)
   rw[XX]at B
   unfold Builtin.append_
   simp only[ht,hu1,g0,g1,Sem.run_bind,Zg ht',Zg hu',Result.andThen_ok,ZB9 hs,Sem.run_pure,O,hwr,Yp,ZJV hi,Xd (show ¬n<0 by omega),Xd ac,Bool.not_true,Wb,WR]
   by_cases hc:len+n.toNat<=cap
   ·have D:=D hc
    rw[Xe hc]
    cases p with
    | none=>
      refine⟨_,_,_,h,w,D,?_,ZAn.refl E H dj⟩
      simp only[Sem.run_bind,Q,Result.andThen_ok,Sem.run_pure]
    | some ad=>
      obtain⟨S,D⟩:=D
      have hsc:=ZBp (P:=P) (ad.add (len*c.n)) (ZO c (List.replicate n.toNat z)) 0 w (by rw[B];exact ZQ9 E S) aj
      refine⟨_,_,_,_,_,D,?_,ZAn.wrs E H dj (ad.add (len*c.n)) (ZO c (List.replicate n.toNat z)) ?_⟩
      .simp only[Sem.run_bind,Q,Result.andThen_ok,Sem.run_pure,hsc]
      .by_cases h0:n.toNat*c.n=0
       .left
        apply WK
        rw[B];exact h0
       .right;exact ZDT S (by omega)
   ·rw[Xd hc]
    obtain⟨I,ah⟩:=hk2 (by omega)
    obtain⟨xs,hxl,hK,hrx⟩:=ZCO U ah
    have hne:len+n.toNat<=ZAW:=XG (VE _ (by omega)) I
    have hcap:Builtin.nextslicecap (len+n.toNat) cap*i.bytes<=2 ^ 48:=by
     have M:=ZEZ (len+n.toNat) cap (by omega)
     rw[Y]
     calc Builtin.nextslicecap (len+n.toNat) cap*bytes<=(2*(len+n.toNat)+192)*bytes:=Xr _ M
         _=2*((len+n.toNat)*bytes)+192*bytes:=by rw[Wx,Vh]
         _<=2 ^ 48:=by unfold ZAW at I;omega
    have hg1:¬(((len+n.toNat:Nat):Int)>IntKind.i64.max/\(True\/i.bytes=0)):=by
     rintro⟨hgt,_⟩
     unfold ZAW at hne
     have:IntKind.i64.max=9223372036854775807:=by decide
     rw[this]at hgt
     omega
    obtain⟨W,hnc,hch⟩:∃ W,len+n.toNat<=W/\(choose (.appendCap (len+n.toNat) cap e)).run P w=.ok W w.drew:=by
     refine⟨_,?_,by rw[run_choose];simp only[Question.forced,Wb,WR];rfl⟩
     simp only[Question.cut];omega
    have ak:(ZO c (List.replicate n.toNat z)++(Builtin.zeroCells zv.cells (W-(len+n.toNat))).toList).length=(W-len)*c.n:=by
     rw[Xg,B]
     simp only[Yn,ZDO,hzs]
     rw[<-Wx]
     congr 1;omega
    have hK:=hK W _ hnc ak w.heap.size (Hp.le_lt E (Xc _))
    have am:=hrx P w.drew cap E
    refine⟨_,_,_,_,_,hK,?_,ZAn.drew (ZAn.alloc (w:=w.drew) E H dj _)⟩
    simp only[ZJV hi,Sem.run_bind,Result.andThen_ok,Sem.run_ite]
    rw[Xd (by simpa using hg1)]
    simp only[Sem.run_pure]
    rw[Xd (by omega)]
    simp only[Sem.run_pure,Result.andThen_ok,hch,run_askRoom,am,ZDc aq,newRow,Sem.run_bind,run_newObj]
    have hza:Builtin.zeroCells zv.cells n.toNat=(ZO c (List.replicate n.toNat z)).toArray:=by rw[<-ap]
    by_cases M:n.toNat*c.n=0
    ·have ae:ZO c (List.replicate n.toNat z)=[]:=by
         apply WK
         rw[B];exact M
     simp only[ae,Xe M,Result.andThen_ok]
     congr 3
     simp
    .simp only[Xd M,Result.andThen_ok,hza]
     congr 3
     simp
variable {K:Hp->Prop}
theorem ZR0(W:ats[0]?=some t)(Q:P.underlying t=some (.slice e))(S:ZAz P c e=true){x:c.T}(Z:ZDh P e=some z)(Y:z=c.enc x)(E:h.le w)(B:fr.le w)(dj:h.dj fr)(I:ZEM c x p n h K):
 ∃ h' w',K h'/\(Builtin.clear_ ats ty #[.slice p n cap]).run P w=.ok (.tuple #[]) w'/\ZAn h fr h' w w':=by
 simp only[ZAz,Xf]at S;obtain⟨⟨M,_⟩,hn⟩:=S;have U:(#[.slice p n cap]:Array Value)[0]?=some (.slice p n cap):=rfl;unfold ZEM at I;unfold Builtin.clear_;simp only[W,U,Sem.run_bind,Zg Q,Result.andThen_ok];cases p with
 | none=>exact⟨h,w,I,by simp,ZAn.refl E B dj⟩
 | some ad=>
   obtain⟨H,I⟩:=I;have D:=Zi M (List.replicate n x);simp only[XX]at D;have O:=ZBp (P:=P) ad (ZO c (List.replicate n x)) 0 w (by rw[D];exact ZQ9 E H) (ZEg M _);cases n with
   | zero=>exact⟨_,_,I,by simp[ZO,wrW],ZAn.wrs E B dj ad _ (by left;simp[ZO])⟩
   | succ n=>
     refine⟨_,_,I,?_,ZAn.wrs E B dj ad (ZO c (List.replicate (n+1) x)) ?_⟩
     .simp [ZDc Z,ZD7 M Y,O]
     .by_cases V:(n+1)*c.n=0
      .left;apply WK;rw[D];exact V
      .right;exact ZDT H (by omega)
theorem ZMd{s:ByteArray}{K:Nat->Nat->Hp->Prop}(S:h.le w)(H:fr.le w)(dj:h.dj fr)(E:ZPH e s h K):
 ∃ b cap h' w',K b cap h'/\(Conv.stringToBytes e s).run P w=.ok (.slice (some ⟨b,0,none⟩) s.size cap) w'/\ZAn h fr h' w w':=by
 obtain⟨D,W,V⟩:∃ D,s.size<=D/\(choose (.appendCap s.size 0 e)).run P w=.ok D w.drew:=by refine⟨_,?_,by rw[run_choose];simp only[Question.forced,Wb,WR];rfl⟩;simp only[Question.cut];omega
 have hK:=E D (List.replicate (D-s.size) (.int .u8 0)) w.heap.size W (by simp) (Hp.le_lt S (Xc _));let B:Array Value:=(ZD6 (s.data.toList.map λ(x:UInt8)=>(x.toNat:Int))++List.replicate (D-s.size) (Value.int .u8 0)).toArray;have M:(s.data.map λb=>Value.int .u8 b.toNat)++Array.replicate (D-s.size) (.int .u8 0)=B:=by apply WM;simp[B,ZD6]
 have O:B.size=D:=by show (ZD6 _++_).length=D;simp[ZD6];show s.size+_=D;omega
 refine⟨_,_,_,((w.drew).alloc (.cells B e)).freeze ⟨w.heap.size,D,none⟩ 1,hK,?_,?_⟩
 .unfold Conv.stringToBytes;simp only[Sem.run_bind,V,Result.andThen_ok,M,newRow,run_newObj,Sem.run_pure,markStringish];have Y:(({w.drew with heap:=w.drew.heap.push (.cells B e)}:World)).shape? w.drew.heap.size=some (e,D):=by
   have h9:(w.drew.heap.push (Obj.cells B e))[w.drew.heap.size]?=some (.cells B e):=by show (w.heap.push (Obj.cells B e))[w.heap.size]?=_;simp
   unfold World.shape?;dsimp only;rw[h9];simp only[O]
  simp only[run_shape,Y,Result.andThen_ok,run_freeze];rfl
 .have Q:(((w.drew).alloc (.cells B e)).freeze ⟨w.heap.size,D,none⟩ 1).heap[w.heap.size]?=some (.cells B e (D,D+1)):=by simp only[World.freeze,VR,WR,Yt,Yp];show (Option.map _ ((w.heap.push (.cells B e))[w.heap.size]?))=_;simp
  have I:∀ k,k≠w.heap.size->(((w.drew).alloc (.cells B e)).freeze ⟨w.heap.size,D,none⟩ 1).heap[k]?=w.heap[k]?:=by intro k E;simp only[World.freeze,VR,WR,Yt];rw[Xd (Ne.symm E)];show (w.heap.push _)[k]?=_;rw[Vf,Xd E]
  refine⟨?_,?_,Hp.upd_dj dj (Hp.le_lt H (Xc _)) _,?_,?_⟩
  .intro k o E;unfold Hp.upd at E;split at E
   .rename_i U;subst U;cases E;exact Q
   .rename_i U;rw[I k U];exact S k o E
  .intro k o E;rw[I k (by rintro rfl;rw[Hp.le_lt H (Xc _)]at E;cases E)];exact H k o E
  .refine ⟨?_,?_,?_⟩<;>simp[World.freeze]<;>rfl
  .intro b hb Z _;exact⟨I b (by omega),by simp only[Hp.upd,Xd (show b≠w.heap.size by omega)];exact Z⟩
theorem ZWG(M:h.le w)(E:fr.le w)(dj:h.dj fr)(B:ZaW ad h K):
 ∃ h' w',K h'/\(markStringish ad).run P w=.ok () w'/\ZAn h fr h' w w':=by
 obtain⟨c,e,fz,S,B⟩:=B;have V:=M _ _ S;refine⟨_,w.freeze ⟨ad.block,c.size,none⟩ 1,B,?_,?_⟩
 .have U:w.shape? ad.block=some (e,c.size):=by simp[World.shape?,V]
  simp only[markStringish,Sem.run_bind,run_shape,U,Result.andThen_ok,run_freeze]
 .have H:(w.freeze ⟨ad.block,c.size,none⟩ 1).heap[ad.block]?=some (.cells c e (frz c.size fz)):=by simp only[World.freeze,VR,WR,Yt,Yp,V];simp[frz]
  have D:∀ k,k≠ad.block->(w.freeze ⟨ad.block,c.size,none⟩ 1).heap[k]?=w.heap[k]?:=by intro k B;simp only[World.freeze,VR,WR,Yt];rw[Xd (Ne.symm B)]
  have I:fr ad.block=none:=by
   rcases dj ad.block with e'|e'
   .rw [S]at e';cases e'
   .exact e'
  refine⟨?_,?_,Hp.upd_dj dj I _,?_,?_⟩
  .intro k o B;unfold Hp.upd at B;split at B
   .rename_i O;subst O;cases B;exact H
   .rename_i O;rw[D k O];exact M k o B
  .intro k o B;rw[D k (by rintro rfl;rw[I]at B;cases B)];exact E k o B
  .refine ⟨?_,?_,?_⟩<;>simp[World.freeze]
  .intro b W Q _;have:b≠ad.block:=by rintro rfl;rw[S]at Q;cases Q
   exact⟨D b this,by simp only[Hp.upd,Xd this];exact Q⟩
theorem ZAn.set(I:h.le w)(E:fr.le w)(dj:h.dj fr){o:Obj}(Q:h b=some o):ZAn h fr (h.upd b o') w {w with heap:=w.heap.setIfInBounds b o'}:=by
 have U:=I _ _ Q;have S:b<w.heap.size:=by
  rcases WB b w.heap.size with h|h
  .exact h
  .rw [YC h]at U;cases U
 have B:∀ k,k≠b->(w.heap.setIfInBounds b o')[k]?=w.heap[k]?:=λk D=>by rw[Array.getElem?_setIfInBounds_ne (Ne.symm D)]
 have H:fr b=none:=by
  rcases dj b with e'|e'
  .rw [Q]at e';cases e'
  .exact e'
 refine⟨?_,?_,?_,⟨rfl,rfl,rfl⟩,?_⟩
 .intro k o D;unfold Hp.upd at D;split at D
  .rename_i M;subst M;cases D;show (w.heap.setIfInBounds _ _)[_]?=_;rw[Array.getElem?_setIfInBounds_self,Xe S]
  .rename_i M;show (w.heap.setIfInBounds _ _)[_]?=_;rw[B k M];exact I k o D
 .intro k o D;show (w.heap.setIfInBounds _ _)[_]?=_;rw[B k (by rintro rfl;rw[H]at D;cases D)];exact E k o D
 .exact Hp.upd_dj dj H o'
 .intro c _ O _;have:c≠b:=by rintro rfl;rw[Q]at O;cases O
  exact⟨B c this,by simp only[Hp.upd,Xd this];exact O⟩
theorem ZG0{z:c.T}(n:Int):∀ (l:List (Int×c.T×Nat)) (i:Nat),
 ∃ r,Instr.findNow (.int kk) (.int kk n) (l.map λe=>({key:=.int kk e.1,val:=c.enc e.2.1,born:=e.2.2}:MapEntry)) i=some r/\
  (match r with|some (_,v)=>v|none=>c.enc z)=c.enc (ZQr z n l)/\((∀ e∈l,n≠e.1)->r=none):=by
 intro l;induction l with
 | nil=>intro i;exact⟨none,rfl,rfl,λ_=>rfl⟩
 | cons e l M=>
   intro i;have D:Instr.sameNow (.int kk) (.int kk n) (.int kk e.1)=some (n==e.1):=by simp[Instr.sameNow]
   by_cases B:n=e.1
   .refine ⟨some (i,c.enc e.2.1),?_,?_,λh=>absurd B (h e (by simp))⟩
    .simp only[XS,Instr.findNow];rw[D,B];simp
    .simp [ZQr,B]
   .obtain ⟨r,E,h2,H⟩:=M (i+1);refine⟨r,?_,?_,λh=>H λx I=>h x (by simp[I])⟩
    .simp only[XS,Instr.findNow];rw[D];have:(n==e.1)=false:=by simpa using B
     rw[this];exact E
    .rw [h2];simp[ZQr,B]
theorem ZZ9(hP:ZGz P A)(R:Rel A N bx env a h fr w0 w){k:EV->Hp->Prop}(B:opW A P o (look A env) h k):Zcj P o a w h fr k:=by
 obtain⟨dst,op,type,pos,after,guard⟩:=o;cases op<;>simp only[opW]at B<;>try exact B.elim
 case store t x y=>
  split at B
  ·rename_i c ad v hc O hy
   cases hf:ZAz P c t with
   | false=>rw[hf]at B;exact B.elim
   | true=>
     rw[hf]at B;simp only[XL]at B;split at B
     ·rename_i z hz;obtain⟨hmay,B⟩:=B;have hv:=c.law _ _ hz;subst hv;have hf':=hf;simp only[ZAz,Xf]at hf';obtain⟨⟨hm,_⟩,hn⟩:=hf';cases hs:ZA3 P t with
      | none=>rw[hs]at hn;cases hn
      | some sz=>
        rw[hs]at hn;have hn:=ZFc.1 hn;subst hn;obtain⟨hsz,hone⟩:=ZAo hm z;have hsc:=ZBp (P:=P) ad (c.enc z).cells.toList 0 w (by simpa[hsz]using ZQ9 R.hle hmay) hone;refine .inr (.inl ⟨_,_,B,?_,ZAn.wrs R.hle R.frle R.dj ad (c.enc z).cells.toList ?_⟩)
        .simp only[execOp,Instr.storeAt,R.eval_v O,R.eval_v hy,Instr.sureAddr,Sem.run_bind,Sem.run_pure,Result.andThen_ok,storeVar,ZB9 hs];rw[Xd (by simp[hsz])];simp only[hsc,Result.andThen_ok]
        .by_cases h0:c.n=0
         .left;apply WK;simp[hsz,h0]
         .right;exact ZDT hmay (by omega)
     .exact B.elim
  .exact B.elim
 case lookup t x ix ok=>
  split at B
  ·rename_i kt et hu
   split at B
   ·rename_i kk c z ae hc hz
    split at B
    .rename_i m k' n O hix
     split at B
     .rename_i zz Z hzz
      obtain⟨r,l,Q,rfl,Y,B⟩:=B
      have Z:=Ww Z
      subst Z
      have hw:=R.hle _ _ Y
      obtain⟨q,hq1,hq2,_⟩:=ZG0 (c:=c) (kk:=kk) (z:=zz) n l 0
      refine .inl ⟨_,_,_,_,B,.inl rfl,?_,ZAn.refl R.hle R.frle R.dj⟩
      have hzv:z=c.enc zz:=(c.law _ _ hzz).symm
      have ab:∀ m b w,(Instr.checkKey b (m+1) kt (.int kk n)).run P w=.ok () w:=λm b w=>by simp only[Instr.checkKey,Sem.run_bind,Zg ae,Result.andThen_ok];rfl
      have hck:∀ b w,(Instr.checkKey b 10000 kt (.int kk n)).run P w=.ok () w:=ab 9999
      simp only[execOp,Instr.lookup,R.eval_v O,R.eval_v hix,Sem.run_bind,Zg hu,Result.andThen_ok,(by simp[getObj,Sem.run,hw,ZNI]:(getObj r).run P w=.ok (ZNI c kk l Q) w)]
      simp only[Sem.run_bind,Sem.run_pure,Result.andThen_ok,hck,Instr.findKey,Zg ae,hq1]
      cases q with
      | none=>simp only[Sem.run_bind,Sem.run_pure,Result.andThen_ok,ZDc hz,hzv];rw[<-hq2];rfl
      | some q=>simp only[Sem.run_bind,Sem.run_pure,Result.andThen_ok];rw[<-hq2];rfl
     .exact B.elim
    .exact B.elim
   .exact B.elim
  .exact B.elim
 case mapUpdate t x ix y=>
  split at B
  ·rename_i kt et hu
   split at B
   ·rename_i kk c ae hc
    split at B
    .rename_i m k' n v O hix hy
     split at B
     .rename_i vv Z hvv
      obtain⟨r,l,Q,rfl,Y,hno,B⟩:=B
      have Z:=Ww Z
      subst Z
      have hw:=R.hle _ _ Y
      obtain⟨q,hq1,_,hq3⟩:=ZG0 (c:=c) (kk:=kk) (z:=vv) n l 0
      have E:=hq3 hno
      subst E
      refine .inr (.inl ⟨_,_,B,?_,ZAn.set R.hle R.frle R.dj Y⟩)
      have hvv':v=c.enc vv:=(c.law _ _ hvv).symm
      have ab:∀ m b w,(Instr.checkKey b (m+1) kt (.int kk n)).run P w=.ok () w:=λm b w=>by simp only[Instr.checkKey,Sem.run_bind,Zg ae,Result.andThen_ok];rfl
      have hck:∀ b w,(Instr.checkKey b 10000 kt (.int kk n)).run P w=.ok () w:=ab 9999
      simp only[execOp,Instr.mapUpdate,R.eval_v O,R.eval_v hix,R.eval_v hy,Sem.run_bind,Zg hu,Result.andThen_ok,(by simp[getObj,Sem.run,hw,ZNI]:(getObj r).run P w=.ok (ZNI c kk l Q) w)]
      simp only[ZNI,Sem.run_bind,Sem.run_pure,Result.andThen_ok,hck,Instr.findKey,Zg ae,hq1,hvv']
      have hso:∀ o,(setObj r o).run P w=.ok () {w with heap:=w.heap.setIfInBounds r o}:=λo=>by simp[setObj,Sem.run,hw,ZNI]
      rw[hso]
      simp
     .exact B.elim
    .exact B.elim
   .exact B.elim
  .exact B.elim
 case select cs block=>
  refine .inr (.inr (.inr ?_))
  split at B
  ·rename_i sc
   split at B
   ·rename_i W
    split at B
    ·rename_i c z r hc hz V
     have H:∀ b:Option Nat,a.eval sc.chan=.chan b->(execOp a.eval {dst:=dst,op:=.select #[sc] false,type:=type,pos:=pos,after:=after,guard:=guard}).run P w=.ok (.comm #[{chan:=.chan b,send:=none,zero:=z}] false .select) w:=by intro b Y;simp[execOp,Y,W,ZDc hz]
     have U:=R.eval_v V
     cases r with
     | none=>exact⟨_,_,w,_,B,H none U,ZAn.refl R.hle R.frle R.dj,λf l es h=>Conc.step_lone_select_recv_nil h⟩
     | some r=>
       obtain⟨cap,l,s,r',Y,B⟩:=B;have hw:=R.hle _ _ Y;cases l with
       | nil=>exact⟨_,_,w,_,B,H (some r) U,ZAn.refl R.hle R.frle R.dj,λf l es h=>Conc.step_lone_select_default h hw⟩
       | cons v l=>
         obtain⟨x,rfl,B⟩:=B;refine⟨_,_,_,_,B,H (some r) U,ZAn.set R.hle R.frle R.dj Y,λf l' es h=>?_⟩;have:=Conc.step_lone_select_recv_buf h hw (by simp);simpa[World.setChan,goInt]using this
    .exact B.elim
   ·rename_i x W
    split at B
    ·rename_i z r v hz V O
     have H:∀ b:Option Nat,a.eval sc.chan=.chan b->(execOp a.eval {dst:=dst,op:=.select #[sc] false,type:=type,pos:=pos,after:=after,guard:=guard}).run P w=.ok (.comm #[{chan:=.chan b,send:=some v,zero:=z}] false .select) w:=by intro b Y;simp[execOp,Y,W,ZDc hz,R.eval_v O]
     have U:=R.eval_v V
     cases r with
     | none=>exact⟨_,_,w,_,B,H none U,ZAn.refl R.hle R.frle R.dj,λf l es h=>Conc.step_lone_select_send_nil h⟩
     | some r=>
       obtain⟨cap,buf,s,r',Y,h1,h2⟩:=B;have hw:=R.hle _ _ Y;by_cases hc:cap<=buf.size
       .exact ⟨_,_,w,_,h1 hc,H (some r) U,ZAn.refl R.hle R.frle R.dj,λf l es h=>Conc.step_lone_select_send_full h hw hc⟩
       .refine ⟨_,_,_,_,h2 (by omega),H (some r) U,ZAn.set R.hle R.frle R.dj Y,λf l es h=>Conc.step_lone_select_send_room h hw (by omega)⟩
    .exact B.elim
  .exact B.elim
 case convert s d x=>
  split at B
  .rename_i e st hs Z O
   split at B
   .rename_i hu
    obtain⟨b,cap,h',w',B,V,M⟩:=ZMd (P:=P) R.hle R.frle R.dj B
    refine .inl ⟨_,_,_,_,B,.inl rfl,?_,M⟩
    simp only[execOp,convert,R.eval_v O,Sem.run_bind,Zg hs,Zg Z,Result.andThen_ok]
    rw[Zg hu]
    simp[V]
   .exact B.elim
  ·rename_i e' e ad len cap hs Z O
   split at B
   ·rename_i hu
    cases E:Nat.beq s d with
    | false=>rw[E]at B;exact B.elim
    | true=>
      rw[E]at B;have E:=ZFc.1 E;subst E;obtain⟨h',w',B,V,M⟩:=ZWG (P:=P) R.hle R.frle R.dj B;refine .inl ⟨_,_,_,_,B,.inl rfl,?_,M⟩;simp only[execOp,convert,R.eval_v O,Sem.run_bind,Zg hs,Result.andThen_ok];have he:e'=e:=by rw[hs]at Z;cases Z;rfl
      subst he;rw[Zg hu];simp[V]
   .exact B.elim
  .exact B.elim
 case call c=>
  obtain⟨callee,args,ats⟩:=c
  dsimp only at B
  split at B
  ·rename_i f l hl
   have D:args.map a.eval=l.toArray:=WM (by simpa using ZAp R hl)
   split at B
   ·rename_i g first I hfv
    split at B
    .rename_i r V
     obtain⟨⟨fn,body,ac,S⟩,B⟩:=B
     refine .inr (.inr (.inl ⟨g,(first.toList++(l++I.toList)).toArray,?_,B.mono ?_⟩))
     .have hng:=hP.noNG g fn ac
      simp only[execOp,resolve,Deferred.ofValue,R.eval_v hfv,D,Sem.run_bind,Sem.run_pure,Result.andThen_ok,invoke,callFunc,run_program,ac,hng,Wb,WR,S,Vn]
      congr 2
      apply WM
      simp
     .rintro v h' ⟨y,rfl,B⟩;exact B
    ·split at B
     ·rename_i r V
      split at B
      ·rename_i fn ac
       split at B
       .rename_i body S
        refine .inr (.inr (.inl ⟨g,(first.toList++(l++I.toList)).toArray,?_,B.mono ?_⟩))
        .have hng:=hP.noNG g fn ac
         simp only[execOp,resolve,Deferred.ofValue,R.eval_v hfv,D,Sem.run_bind,Sem.run_pure,Result.andThen_ok,invoke,callFunc,run_program,ac,hng,Wb,WR,S,Vn]
         congr 2
         apply WM
         simp
        .rintro v h' ⟨y,rfl,B⟩;exact B
       .obtain ⟨x,O,B⟩:=B
        refine .inl ⟨_,_,_,_,B,.inl rfl,?_,ZAn.refl R.hle R.frle R.dj⟩
        have O:=O w R.hle
        simp only[execOp,resolve,Deferred.ofValue,R.eval_v hfv,D,Sem.run_bind,Sem.run_pure,Result.andThen_ok,invoke]
        rw[<-O]
        congr 2
        apply WM
        simp
      .exact B.elim
     .exact B.elim
   .exact B.elim
  ·rename_i p len cap q n cap' hl
   have D:args.map a.eval=#[.slice p len cap,.slice q n cap']:=WM (by simpa using ZAp R hl)
   split at B
   ·rename_i t u ht hu
    split at B
    ·rename_i e u' ah hu'
     split at B
     ·rename_i cd hcd
      cases E:(ZAz P cd e&&(Nat.ble 1 (ZA8 P e)&&(Nat.ble (ZA8 P e) 1048576&&ZEL P e))) with
      | false=>rw[E]at B;exact B.elim
      | true=>
        rw[E]at B;simp only[XL]at B;simp only[Xf]at E;obtain⟨p',l',c',h',w',B,V,M⟩:=ZQW (w:=w) (ty:=type) (cap':=cap') ht hu ah hu' E.1 rfl (Wi E.2.1) (Wi E.2.2.1) E.2.2.2 R.hle R.frle R.dj B;exact .inl ⟨_,_,_,_,B,.inl rfl,by simp only[execOp,resolve,D,Sem.run_bind,Sem.run_pure,Result.andThen_ok,invoke,builtin,V],M⟩
     .exact B.elim
    .exact B.elim
   .exact B.elim
  ·rename_i p len cap q n cap' hl
   have D:args.map a.eval=#[.slice p len cap,.slice q n cap']:=WM (by simpa using ZAp R hl)
   split at B
   ·rename_i t ht
    split at B
    ·rename_i e ah
     split at B
     ·rename_i cd hcd
      cases E:ZAz P cd e with
      | false=>rw[E]at B;exact B.elim
      | true=>
        rw[E]at B;simp only[XL]at B;obtain⟨m,h',w',B,V,M⟩:=ZUw (P:=P) (ty:=type) (cap:=cap) (cap':=cap') ht ah E R.hle R.frle R.dj B;exact .inl ⟨_,_,_,_,B,.inl rfl,by simp only[execOp,resolve,D,Sem.run_bind,Sem.run_pure,Result.andThen_ok,invoke,builtin,V],M⟩
     .exact B.elim
    .exact B.elim
   .exact B.elim
  ·rename_i p n cap hl
   have D:args.map a.eval=#[.slice p n cap]:=WM (by simpa using ZAp R hl)
   split at B
   ·rename_i t ht
    split at B
    ·rename_i e ah
     split at B
     ·rename_i cd z hcd hz
      cases E:ZAz P cd e with
      | false=>rw[E]at B;exact B.elim
      | true=>
        rw[E]at B;simp only[XL]at B;split at B
        .rename_i x O;obtain⟨h',w',B,V,M⟩:=ZR0 (P:=P) (ty:=type) (cap:=cap) ht ah E hz (cd.law _ _ O).symm R.hle R.frle R.dj B;exact .inl ⟨_,_,_,_,B,.inl rfl,by simp only[execOp,resolve,D,Sem.run_bind,Sem.run_pure,Result.andThen_ok,invoke,builtin,V],M⟩
        .exact B.elim
     .exact B.elim
    .exact B.elim
   .exact B.elim
  .exact B.elim
def ZHT(A:Ann)(P:Program)(o:Oper)(env:Env)(h:Hp)(K:Env->Hp->Prop):Prop:=
 match cls A P o with
 | .p=>opP A P o (look A env) λe=>K (put A env (ZA9 A o) e) h
 | .c=>opC A P o (look A env) λe=>K (put A env o.dst e) h
 | .r=>opR A P o (look A env) h λe=>K (put A env o.dst e) h
 | .a=>opA P o (look A env) λob f=>ZJ ob h λb h'=>K (put A env o.dst (.val (f b))) h'
 | .w=>opW A P o (look A env) h λe h'=>K (put A env o.dst e) h'
def ZFx(N:Nat)(o:Oper):Bool:=
 match o.dst with
 | some d=>Nat.ble (d+1) N
 | none=>true
def ZZh(env:Env)(s:Nat)(b:Bool):Env:=λk=>bif Nat.beq k s then .val (.bool b) else env k
def ZB1(ops:Array Oper)(o:Oper):Option (Nat×Bool):=
 match o.guard with
 | none=>none
 | some (g,want)=>match ops[g]? with
   | some og=>match og.dst with
     | some s=>some (s,want)
     | none=>none
   | none=>none
def ZAi(A:Ann)(P:Program)(N:Nat)(ops:Array Oper)(o:Oper)(env:Env)(h:Hp)(K:Env->Hp->Prop):Prop:=
 bif ZFx N o then
  match o.guard with
  | none=>ZHT A P o env h K
  | some _=>match ZB1 ops o with
    | some (s,want)=>match env s with
      | .val (.bool b)=>ZB b
            (cond want (ZHT A P o (ZZh env s true) h K) (K (put A (ZZh env s true) o.dst (.val undef)) h))
            (cond want (K (put A (ZZh env s false) o.dst (.val undef)) h) (ZHT A P o (ZZh env s false) h K))
      | .val (.tuple ⟨[]⟩)=>K (put A env o.dst (.val undef)) h
      | _=>False
    | none=>False
 else False
def ZKW(A:Ann)(o:Oper)(env:Env)(h:Hp):Prop:=
 match o.op with
 | .load t x=>match o.dst with
   | some d=>match env d with
     | .val v=>match v with
       | .tuple ⟨[]⟩=>True
       | v=>match A.cdc t,look A env x with
         | some c,.v (.pointer (some a))=>match c.dec v with
           | some y=>h.rds a (c.enc y).cells.toList
           | none=>False
         | _,_=>False
     | _=>False
   | none=>False
 | .convert _ _ x=>match o.dst with
   | some d=>match env d with
     | .val v=>match v with
       | .tuple ⟨[]⟩=>True
       | .string s=>match look A env x with
         | .v (.slice a len _)=>ZZk a len h λs'=>s'=s
         | _=>False
       | _=>False
     | _=>False
   | none=>False
 | _=>False
def ZCW(A:Ann)(ops:Array Oper)(env:Env)(h:Hp):List Nat->Prop
 | []=>True
 | i::l=>(match ops[i]? with|some o=>ZKW A o env h|none=>False)/\ZCW A ops env h l
def ZHy(A:Ann)(P:Program)(N:Nat)(ops:Array Oper):List (Nat×List Nat)->Env->Hp->(Env->Hp->Prop)->Prop
 | [],env,h,K=>K env h
 | (i,[])::l,env,h,K=>match ops[i]? with
   | some o=>ZAi A P N ops o env h λe h=>ZHy A P N ops l e h K
   | none=>False
 | (i,ks)::l,env,h,K=>match ops[i]? with
   | some o=>ZAi A P N ops o env h λe h=>ZCW A ops e h ks/\ZHy A P N ops l e h K
   | none=>False
def ZUa(P:Program)(ops:Array Oper)(i:Nat)(a:Act)(w:World)(K:Act->World->Prop):Prop:=
 ∀ (b:Frame) (rest:List Nat) (k:List Item) (cs:List Frame),∃ a' w',K a' w'/\
  Steps P (lone (b.at a (.inRegion ops (i::rest)::k)) cs w) (lone (b.at a' (.inRegion ops rest::k)) cs w')
def St(A:Ann)(N:Nat)(fr:Hp)(w0:World)(K:Env->Hp->Prop)(a:Act)(w:World):Prop:=
 ∃ bx env h,Rel A N bx env a h fr w0 w/\K env h
variable {K:Act->World->Prop}
theorem ZST(hi:ops[i]?=some o)(E:Region.wanted o (yielded ops a.tmps)=false)(B:K (a.put o.dst undef) w):
 ZUa P ops i a w K:=by
 intro b rest k cs;refine⟨_,_,B,.one ?_⟩;have D:=step_op_skip (P:=P) (b:=b) (a:=a) (k:=k) (cs:=cs) (w:=w) (ops:=ops) (i:=i) (rest:=rest) (by simp[hi,E]);simpa[hi]using D
theorem ZD3(hi:ops[i]?=some o)(M:Region.wanted o (yielded ops a.tmps)=true)(I:Did P o a w a' w')(H:K a' w'):ZUa P ops i a w K:=by
 intro b rest k cs;have E:=stepG_op (P:=P) (b:=b) (k:=k) (cs:=cs) (w:=w) (rest:=rest) hi M;have B:∀ v,(b.at a (.inRegion ops (i::rest)::k)).finish v=b.at (a.put o.dst v) (.inRegion ops rest::k):=by intro v;rw[Frame.finish_at,hi];rfl
 rcases I with ⟨v,D,rfl⟩|⟨D,rfl⟩
 .refine ⟨_,_,H,.one (step_lone_go ?_)⟩;rw[E,<-B];simp[stepG.apply,D]
 .refine ⟨_,_,H,.one (step_lone_go ?_)⟩;rw[E,<-B];simp[stepG.apply,D]
theorem ZL0(hi:ops[i]?=some o)(Q:Region.wanted o (yielded ops a.tmps)=true)(O:(execOp a.eval o).run P w=.ok (.enter f args) w)(H:Calls P f args w λe w'=>∃ v,e=.returned v/\K (a.put o.dst v) w'):ZUa P ops i a w K:=by
 intro b rest k cs;have I:=stepG_op (P:=P) (b:=b) (k:=k) (cs:=cs) (w:=w) (rest:=rest) hi Q;have D:∀ v,(b.at a (.inRegion ops (i::rest)::k)).finish v=b.at (a.put o.dst v) (.inRegion ops rest::k):=by intro v;rw[Frame.finish_at,hi];rfl
 obtain⟨e,S,E,⟨v,rfl,M⟩,hsteps,_,hleave⟩:=H (b.at a (.inRegion ops (i::rest)::k)::cs);have B:step P (lone (b.at a (.inRegion ops (i::rest)::k)) cs w)=
  .next (lone (Frame.enter P f args .normal) (b.at a (.inRegion ops (i::rest)::k)::cs) w):=
  step_lone_go (by rw[I];simp[stepG.apply,O,Frame.at])
 refine⟨_,_,M,.head B (Steps.trans hsteps (.one ?_))⟩;rw[<-D];exact step_leave_returned hleave
theorem ZRg(hi:ops[i]?=some o)(S:Region.wanted o (yielded ops a.tmps)=true)(Q:(execOp a.eval o).run P w=.ok (.comm ccs false .select) w)(H:∀ (f:Frame) (l:List Frame) (D:Array Event),stepG P true (Conc.G f l) w=.comm (Conc.G f l) ccs false .select w D->step P (Conc.solo (Conc.G f l) w)=.next (Conc.solo (Conc.G (f.finish v) l) w'))(O:K (a.put o.dst v) w'):ZUa P ops i a w K:=by
 intro b rest k cs;have M:=stepG_op (P:=P) (b:=b) (k:=k) (cs:=cs) (w:=w) (rest:=rest) hi S;have E:∀ v,(b.at a (.inRegion ops (i::rest)::k)).finish v=b.at (a.put o.dst v) (.inRegion ops rest::k):=by intro v;rw[Frame.finish_at,hi];rfl
 have B:∃ D,stepG P true {frame:=b.at a (.inRegion ops (i::rest)::k),callers:=cs,status:=.running,dying:=none} w=
  .comm (Conc.G (b.at a (.inRegion ops (i::rest)::k)) cs) ccs false .select w D:=by
  have I:stepG.apply P true (b.at a (.inRegion ops (i::rest)::k)) cs none (execOp a.eval o) w=
   GStep.after (seen P (b.at a (.inRegion ops (i::rest)::k)).fn (if (b.at a (.inRegion ops (i::rest)::k)).kind=.early then #[] else Sem.events P (execOp a.eval o) w #[]))
    (GStep.comm {frame:=b.at a (.inRegion ops (i::rest)::k),callers:=cs,status:=.running,dying:=none} ccs false .select w):=by
   simp[stepG.apply,Q]
  exact⟨_,(M.trans I).trans rfl⟩
 obtain⟨D,B⟩:=B;refine⟨_,_,O,.one ?_⟩;rw[<-E];exact H (b.at a (.inRegion ops (i::rest)::k)) cs D B
theorem Hp.emp_le(w:World):Hp.emp.le w:=λb o h=>by cases h
theorem Hp.emp_dj(g:Hp):Hp.emp.dj g:=λ_=>.inl rfl
variable {K:Env->Hp->Prop}
theorem ZUI(E:ZGz P A)(R:Rel A N bx env a h fr w0 w)(hi:ops[i]?=some o)(M:∀ k,o.dst=some k->k<N)(O:Region.wanted o (yielded ops a.tmps)=true)(B:ZHT A P o env h K):ZUa P ops i a w (St A N fr w0 K):=by
 unfold ZHT at B;cases U:cls A P o with
 | p=>
   rw[U]at B;obtain⟨ev,bx',a',w',B,R',W⟩:=ZZr E R M U B;exact ZD3 hi O W ⟨_,_,_,R',B⟩
 | c=>
   rw[U]at B;obtain⟨dst,op,type,pos,after,guard⟩:=o;simp only[opC]at B;cases op<;>simp only at B<;>try exact B.elim
   rename_i c;obtain⟨ac,args,ats⟩:=c;dsimp only at B;split at B
   ·rename_i g;split at B
    .rename_i l r fn hl H Z;split at B
     .rename_i body S;obtain⟨x,D,B⟩:=B;have Q:args.map a.eval=l.toArray:=WM (by simpa using ZAp R hl);refine ZL0 (f:=g) (args:=l.toArray) hi O ?_ ?_
      .have aj:=E.noNG g fn Z;simp only[execOp,resolve,Deferred.ofValue,Act.eval,Q,Sem.run_bind,Sem.run_pure,Result.andThen_ok,invoke,callFunc,run_program,Z,aj,Wb,WR,S,Vn];congr 2;simp
      .refine (D w (h.un ((ZFJ bx env w).un fr)) (Hp.emp_le w) (Hp.un_le R.hle (Hp.un_le R.boxes_le R.frle)) (Hp.emp_dj _)).mono ?_;rintro e w' ⟨v,h',rfl,⟨rfl,rfl⟩,_,I,_,sm⟩;have V:=Hp.dj_un R.boxes_dj R.dj;have R':=R.called (h':=h) (Hp.le_un_left I) (Hp.le_un_right V I) V sm;exact⟨_,rfl,_,_,_,R'.put E.good M (ev:=.val (r.enc x)) rfl,B⟩
     .exact B.elim
    .exact B.elim
   .exact B.elim
 | r=>
   rw[U]at B;obtain⟨v,B,H⟩:=Zaz E R B;exact ZD3 hi O (.inl ⟨v,H,rfl⟩) ⟨_,_,_,R.put E.good M (ev:=.val v) rfl,B⟩
 | a=>
   rw[U]at B;obtain⟨ob,f,B,H⟩:=ZaG E R B;have D:=ZAn.alloc R.hle R.frle R.dj ob;have R':=R.world D.hle D.frle D.dj D.same D.keep;exact ZD3 hi O (.inl ⟨_,H,rfl⟩) ⟨_,_,_,R'.put E.good M (ev:=.val (f w.heap.size)) rfl,B w.heap.size (Hp.le_lt R.hle (Xc _))⟩
 | w=>
   rw[U]at B;rcases ZZ9 E R B with ⟨ev,v,h',w',B,ah,H,D⟩|⟨h',w',B,H,D⟩|⟨f,args,H,D⟩|⟨v,h',w',ccs,B,H,D,hst⟩
   .have R':=R.world D.hle D.frle D.dj D.same D.keep;have Y:ZbE A bx env o.dst ev v:=by rcases ah with rfl|rfl<;>simp[ZbE]
    exact ZD3 hi O (.inl ⟨_,H,rfl⟩) ⟨_,_,_,R'.put E.good M Y,B⟩
   .have R':=R.world D.hle D.frle D.dj D.same D.keep;exact ZD3 hi O (.inr ⟨H,rfl⟩) ⟨_,_,_,R'.put E.good M (ev:=.unk) trivial,B⟩
   .refine ZL0 hi O H ?_;refine(D w ((ZFJ bx env w).un fr) R.hle (Hp.un_le R.boxes_le R.frle) (Hp.dj_un R.boxes_dj R.dj)).mono ?_;rintro e w' ⟨v,h',rfl,B,ab,I,ae,sm⟩;have R':=R.called ab I ae sm;exact⟨_,rfl,_,_,_,R'.put E.good M (ev:=.val v) rfl,B⟩
   .have R':=R.world D.hle D.frle D.dj D.same D.keep;exact ZRg hi O H hst ⟨_,_,_,R'.put E.good M (ev:=.val v) rfl,B⟩
theorem ZMg{b:Bool}(B:env s=.val (.bool b)):ZZh env s b=env:=by
 funext k;unfold ZZh;cases D:Nat.beq k s with
 | true=>rw[ZFc.1 D,B];rfl
 | false=>rfl
inductive ZUf (ops:Array Oper) (o:Oper) (env:Env):Bool->Prop
 | free (h:o.guard=none):ZUf ops o env true
 | at_ (s:Nat) (want b:Bool) (g:Nat) (hg:o.guard=some (g,want)) (hs:ZB1 ops o=some (s,want)) (he:env s=.val (.bool b)):ZUf ops o env (b==want)
 | not_ (s:Nat) (want:Bool) (g:Nat) (hg:o.guard=some (g,want)) (hs:ZB1 ops o=some (s,want)) (he:env s=.val undef):ZUf ops o env false
theorem ZEi(B:ZAi A P N ops o env h K):
 ZFx N o=true/\∃ g,ZUf ops o env g/\(g=true->ZHT A P o env h K)/\(g=false->K (put A env o.dst (.val undef)) h):=by
 unfold ZAi at B;cases I:ZFx N o with
 | false=>rw[I]at B;exact B.elim
 | true=>
   rw[I]at B;refine⟨rfl,?_⟩;simp only[XL]at B;cases H:o.guard with
   | none=>rw[H]at B;exact⟨true,.free H,λ_=>B,λh=>by cases h⟩
   | some S=>
     obtain⟨g,E⟩:=S;rw[H]at B;dsimp only at B;cases D:ZB1 ops o with
     | none=>rw[D]at B;exact B.elim
     | some U=>
       obtain⟨s,want⟩:=U;have Q:want=E:=by
        unfold ZB1 at D;rw[H]at D;dsimp only at D;split at D
        .split at D
         .cases D;rfl
         .cases D
        .cases D
       subst Q;rw[D]at B;dsimp only at B;split at B
       .rename_i b M;refine⟨b==want,.at_ s want b g H D M,?_,?_⟩
        .intro O;cases b<;>cases want<;>simp at O<;>simp only[XL,Yu,ZMg M]at B<;>exact B
        .intro O;cases b<;>cases want<;>simp at O<;>simp only[XL,Yu,ZMg M]at B<;>exact B
       .rename_i M;exact⟨false,.not_ s want g H D M,(λe=>by cases e),λ_=>B⟩
       .exact B.elim
variable {g:Bool}
theorem ZAX(I:ZFx N o=true)(B:ZUf ops o env g)(H:g=true->ZHT A P o env h K)(h2:g=false->K (put A env o.dst (.val undef)) h):
 ZAi A P N ops o env h K:=by
 unfold ZAi;rw[I];simp only[XL];cases B with
 | free B=>rw[B];exact H rfl
 | at_ s want b g B E D=>
   rw[B];simp only[E,D];cases b<;>cases want<;>simp only[XL,Yu,ZMg D]<;>first|exact H rfl|exact h2 rfl
 | not_ s want g B E D=>
   rw[B];simp only[E,D,undef];exact h2 rfl
theorem ZFi(h:ZFx N o=true):∀ k,o.dst=some k->k<N:=by intro k B;unfold ZFx at h;rw[B]at h;exact Wi h
theorem ZIA(R:Rel A N bx env a h fr w0 w)(E:ZUf ops o env g):Region.wanted o (yielded ops a.tmps)=g:=by
 cases E with
 | free E=>simp[Region.wanted,E]
 | at_ s want b g E B M=>
   have D:=R.slot s;rw[M]at D;simp only[ZDV]at D;unfold ZB1 at B;rw[E]at B;dsimp only at B;split at B
   .rename_i O I;split at B
    .rename_i Q H;cases B;simp only[Region.wanted,E,yielded,I,Option.bind_some,H,D];cases b<;>cases want<;>rfl
    .cases B
   .cases B
 | not_ s want g E B M=>
   have D:=R.slot s;rw[M]at D;simp only[ZDV]at D;unfold ZB1 at B;rw[E]at B;dsimp only at B;split at B
   .rename_i O I;split at B
    .rename_i Q H;cases B;simp only[Region.wanted,E,yielded,I,Option.bind_some,H,D,undef];rfl
    .cases B
   .cases B
theorem ZEo(D:ZGz P A)(R:Rel A N bx env a h fr w0 w)(hi:ops[i]?=some o)(M:ZAi A P N ops o env h K):
 ZUa P ops i a w (St A N fr w0 K):=by
 obtain⟨B,g,I,H,h2⟩:=ZEi M;have E:=ZIA R I;cases g with
 | true=>exact ZUI D R hi (ZFi B) E (H rfl)
 | false=>exact ZST hi E ⟨_,_,_,R.put D.good (ZFi B) (ev:=.val undef) rfl,h2 rfl⟩
def Lin(F:(EV->Prop)->Prop):Prop:=∀ k,F k->∃ e,k e/\∀ k',k' e->F k'
theorem Lin.at_(e:EV):Lin λk=>k e:=λ_ B=>⟨e,B,λ_ h=>h⟩
theorem Lin.no:Lin λ_=>False:=λ_ B=>B.elim
variable {F:(EV->Prop)->Prop}
theorem Lin.and(h:Lin F):Lin λk=>C/\F k:=λk ⟨c,B⟩=>
 let ⟨e,h1,h2⟩:=h k B;⟨e,h1,λD h'=>⟨c,h2 D h'⟩⟩
theorem Lin.ex{F:X->(EV->Prop)->Prop}(h:∀ x,Lin (F x)):Lin λk=>∃ x,F x k:=λk ⟨x,B⟩=>
 let ⟨e,h1,h2⟩:=h x k B;⟨e,h1,λD h'=>⟨x,h2 D h'⟩⟩
variable {G:(EV->Prop)->Prop}
theorem Lin.cond{b:Bool}(h:Lin F)(g:Lin G):Lin λk=>cond b (F k) (G k):=by
 cases b
 .exact g
 .exact h
theorem ZFs(d:Option Tmp)(l:LV):Lin (moveL A d l):=by
 cases l with
 | v v=>exact Lin.at_ _
 | r t off cs=>
   cases d with
   | none=>exact Lin.at_ _
   | some d=>exact Lin.cond (Lin.at_ _) (Lin.at_ _)
 | no=>exact Lin.at_ _
theorem ZIG(d:Option Tmp)(t off:Nat):Lin (refTo A d t off):=by
 cases d with
 | none=>exact Lin.no
 | some d=>exact Lin.cond (Lin.at_ _) Lin.no
theorem ZLy(B:Bool)(n:Nat)(cs:List Value)(off:Nat):Lin (ZJl B n cs off):=by
 unfold ZJl;cases B with
 | true=>exact Lin.cond (Lin.at_ _) Lin.no
 | false=>
   dsimp only;cases cs[off]? with
   | none=>exact Lin.no
   | some v=>exact Lin.at_ _
theorem ZPK(p:Option Addr)(F:Addr->(EV->Prop)->Prop)(h:∀ a,Lin (F a)):Lin λk=>ZM p λa=>F a k:=by
 cases p with
 | none=>exact Lin.no
 | some a=>exact h a
theorem ZWw(p:Option Addr)(len:Nat)(i:Int)(F:Addr->(EV->Prop)->Prop)(h:∀ a,Lin (F a)):Lin λk=>Zb p len i λa=>F a k:=
 Lin.and (Lin.and (ZPK p F h))
theorem ZMf(len:Nat)(i:Int)(h:Lin F):Lin λk=>atP len i (F k):=Lin.and (Lin.and h)
theorem ZBs(len cap:Nat)(lo hi:Option Int)(F:Nat->Nat->(EV->Prop)->Prop)(h:∀ l m,Lin (F l m)):Lin λk=>Z3 len cap lo hi λl m=>F l m k:=by unfold Z3;cases hi<;>cases lo<;>dsimp only<;>(repeat apply Lin.and)<;>exact h _ _
theorem ZL1(cap:Nat)(lo:Option Int)(j m:Int)(F:Nat->Nat->Nat->(EV->Prop)->Prop)(h:∀ a b c,Lin (F a b c)):Lin λk=>ZIp cap lo j m λa b c=>F a b c k:=by unfold ZIp;cases lo<;>dsimp only<;>(repeat apply Lin.and)<;>exact h _ _ _
theorem ZVI(op:BinOp)(t:TypeId)(x y:Value):Lin (ZZ7 A P op t x y):=by
 intro k B;unfold ZZ7 at B⊢;split at B
 ·cases op<;>dsimp only at B⊢;case shl=>exact Lin.and (Lin.at_ _) k B
  case shr=>exact Lin.and (Lin.at_ _) k B
  all_goals
   split at B
   .exact B.elim
   .first
     | exact⟨_,B,λD h=>h⟩
     | exact Lin.and (Lin.at_ _) k B
 .split at B
  .exact ⟨_,B,λD h=>h⟩
  .exact ⟨_,B,λD h=>h⟩
  .exact B.elim
 .split at B
  .exact ⟨_,B,λD h=>h⟩
  .exact ⟨_,B,λD h=>h⟩
  .exact B.elim
 .split at B
  .exact ⟨_,B,λD h=>h⟩
  .exact ⟨_,B,λD h=>h⟩
  .exact B.elim
 .split at B
  .exact ⟨_,B,λD h=>h⟩
  .exact ⟨_,B,λD h=>h⟩
  .exact B.elim
 ·cases E:A.eqs t with
  | false=>rw[E]at B;exact B.elim
  | true=>
    rw[E]at B;simp only[XL]at B⊢;split at B
    .exact ⟨_,B,λD h=>h⟩
    .exact ⟨_,B,λD h=>h⟩
    .exact B.elim
 .exact B.elim
theorem ZRY(o:Oper)(ρ:Operand->LV):Lin (opP A P o ρ):=by
 obtain⟨dst,op,type,pos,after,guard⟩:=o;cases op;case move x=>exact ZFs _ _
 case assign x=>exact ZFs _ _
 case pick c x y=>
  intro k B
  simp only[opP]at B⊢
  split at B
  .exact Lin.cond (ZFs _ _) (ZFs _ _) k B
  .exact B.elim
 case alloc e=>
  intro k B
  simp only[opP]at B⊢
  split at B
  .exact ⟨_,B,λD h=>h⟩
  .exact B.elim
 case box e x=>
  intro k B
  simp only[opP]at B⊢
  split at B
  .exact ⟨_,B,λD h=>h⟩
  .exact B.elim
 case build t ps=>
  intro k B
  simp only[opP]at B⊢
  split at B
  .split at B
   .exact ⟨_,B,λD h=>h⟩
   .exact B.elim
  .split at B
   .exact ⟨_,B,λD h=>h⟩
   .exact B.elim
  .exact B.elim
 case nilCheck x=>
  intro k B
  simp only[opP]at B⊢
  split at B
  .exact ZPK _ _ (λa=>Lin.at_ _) k B
  .exact ⟨_,B,λD h=>h⟩
  .exact ZIG _ _ _ k B
  .exact B.elim
 case binOp op t x y ty=>
  intro k B
  simp only[opP]at B⊢
  split at B
  .exact ZVI _ _ _ _ k B
  .exact B.elim
 case unOp op t x=>
  intro k B
  simp only[opP]at B⊢
  split at B
  .exact ⟨_,B,λD h=>h⟩
  .exact ⟨_,B,λD h=>h⟩
  .exact B.elim
 case convert s d x=>
  intro k B
  simp only[opP]at B⊢
  split at B
  .exact ⟨_,B,λD h=>h⟩
  .exact B.elim
 case makeInterface t x=>
  intro k B
  simp only[opP]at B⊢
  split at B
  .exact B.elim
  .exact ⟨_,B,λD h=>h⟩
  .exact B.elim
 case makeFunc fn l m=>
  intro k B
  simp only[opP]at B⊢
  split at B
  .exact ⟨_,B,λD h=>h⟩
  .exact B.elim
 case fieldAddr s x f=>
  intro k B
  simp only[opP]at B⊢
  split at B
  ·split at B
   .split at B
    .split at B
     .exact ⟨_,B,λD h=>h⟩
     .exact ZIG _ _ _ k B
     .exact B.elim
    .exact B.elim
   .exact B.elim
  .exact B.elim
 case field s x f=>
  intro k B
  simp only[opP]at B⊢
  split at B
  .split at B
   .split at B
    .exact ZLy _ _ _ _ k B
    .exact B.elim
   .exact B.elim
  .exact B.elim
 case load t x=>
  intro k B
  simp only[opP]at B⊢
  split at B
  ·cases E:ZQ7 A x with
   | false=>rw[E]at B;exact ZLy _ _ _ _ k B
   | true=>
     rw[E]at B;simp only[XL]at B⊢;split at B
     .rename_i c H;exact Lin.cond (Lin.ex λx=>Lin.and (Lin.at_ _)) Lin.no k B
     .exact B.elim
  .exact B.elim
 case store t x y=>
  intro k B
  simp only[opP]at B⊢
  split at B
  .refine Lin.cond ?_ Lin.no k B
   refine Lin.cond ?_ (Lin.cond (Lin.at_ _) Lin.no)
   split
   .exact Lin.and (Lin.ex λx=>Lin.and (Lin.at_ _))
   .exact Lin.no
  .exact B.elim
 case indexAddr t x ix=>
  intro k B
  simp only[opP]at B⊢
  split at B
  .split at B
   .exact ZWw _ _ _ _ (λa=>Lin.at_ _) k B
   .exact B.elim
  .split at B
   .exact ZMf _ _ (Lin.at_ _) k B
   .exact ZMf _ _ (ZIG _ _ _) k B
   .exact B.elim
  .exact B.elim
 case index t x ix=>
  intro k B
  simp only[opP]at B⊢
  split at B
  .exact ZMf _ _ (Lin.at_ _) k B
  .exact B.elim
 case slice t x lo hi mx=>
  intro k B
  simp only[opP]at B⊢
  split at B
  .split at B
   .exact B.elim
   .split at B
    .exact ZBs _ _ _ _ _ (λl m=>Lin.at_ _) k B
    .exact ZBs _ _ _ _ _ (λl m=>Lin.at_ _) k B
    .exact ZBs _ _ _ _ _ (λl m=>Lin.at_ _) k B
    .exact ZBs _ _ _ _ _ (λl m=>Lin.at_ _) k B
    .exact ZL1 _ _ _ _ _ (λa b c=>Lin.at_ _) k B
    .exact ZL1 _ _ _ _ _ (λa b c=>Lin.at_ _) k B
    .exact B.elim
  .split at B
   .exact ZBs _ _ _ _ _ (λl m=>Lin.at_ _) k B
   .exact ZBs _ _ _ _ _ (λl m=>Lin.at_ _) k B
   .exact ZBs _ _ _ _ _ (λl m=>Lin.at_ _) k B
   .exact B.elim
  .split at B
   .exact B.elim
   .split at B
    .exact ZBs _ _ _ _ _ (λl m=>Lin.at_ _) k B
    .exact ZBs _ _ _ _ _ (λl m=>Lin.at_ _) k B
    .exact ZBs _ _ _ _ _ (λl m=>Lin.at_ _) k B
    .exact ZBs _ _ _ _ _ (λl m=>Lin.at_ _) k B
    .exact B.elim
  .exact B.elim
 case extract x i=>
  intro k B
  simp only[opP]at B⊢
  split at B
  .split at B
   .exact ⟨_,B,λD h=>h⟩
   .exact B.elim
  .exact B.elim
 case call c=>
  intro k B
  simp only[opP]at B⊢
  split at B
  .split at B
   .exact ⟨_,B,λD h=>h⟩
   .exact ⟨_,B,λD h=>h⟩
   .exact ⟨_,B,λD h=>h⟩
   .exact B.elim
  .exact ⟨_,B,λD h=>h⟩
  .exact ⟨_,B,λD h=>h⟩
  .exact B.elim
 all_goals (intro k B;exact B.elim)
theorem ZSX(o:Oper)(ρ:Operand->LV):Lin (opC A P o ρ):=by
 obtain⟨dst,op,type,pos,after,guard⟩:=o;cases op
 case call c=>
  intro k B
  simp only[opC]at B⊢
  split at B
  .split at B
   .split at B
    .exact Lin.ex (λx=>Lin.and (Lin.at_ _)) k B
    .exact B.elim
   .exact B.elim
  .exact B.elim
 all_goals (intro k B;exact B.elim)
def Hp.sub(h g:Hp):Prop:=∀ b o,h b=some o->g b=some o
theorem Hp.sub_refl(h:Hp):h.sub h:=λ_ _ h=>h
variable {a:Addr}
theorem Hp.sub_cell{g:Hp}(s:h.sub g)(e:h.cell? a=some v):g.cell? a=some v:=by
 unfold Hp.cell? at e⊢;cases B:h a.block with
 | none=>rw[B]at e;cases e
 | some o=>rw[B]at e;rw[s _ _ B];exact e
theorem Hp.sub_rds{g:Hp}(s:h.sub g)(r:h.rds a cs):g.rds a cs:=λi v B=>Hp.sub_cell s (r i v B)
theorem Hp.sub_upd(D:h b=none)(o:Obj):h.sub (h.upd b o):=by intro k o' B;unfold Hp.upd;rw[Xd (by rintro rfl;rw[D]at B;cases B)];exact B
theorem ZNt(o:Oper)(ρ:Operand->LV)(h:Hp):∀ k,opR A P o ρ h k->∃ e,k e/\∀ H h',h.sub h'->H e->opR A P o ρ h' H:=by
 obtain⟨dst,op,type,pos,after,guard⟩:=o;intro k B;cases op
 case load t x=>
  simp only[opR]at B⊢
  split at B
  ·rename_i c a Z hx
   cases I:ZAz P c t with
   | false=>rw[I]at B;exact B.elim
   | true=>
     rw[I]at B;obtain⟨y,W,B⟩:=B;exact⟨_,B,λH h' E D=>⟨y,Hp.sub_rds E W,D⟩⟩
  .exact B.elim
 case convert s d x=>
  simp only[opR]at B⊢
  split at B
  ·rename_i e a len cap Q h2 S
   split at B
   ·cases a with
    | none=>exact⟨_,B,λH h' E D=>D⟩
    | some a=>
      obtain⟨xs,hl,V,B⟩:=B;exact⟨_,B,λH h' E D=>⟨xs,hl,Hp.sub_rds E V,D⟩⟩
   .exact B.elim
  .exact B.elim
 case call c=>
  simp only[opR]at B⊢
  split at B
  ·rename_i t r Q h2 S
   cases I:ZRK P t with
   | false=>rw[I]at B;exact B.elim
   | true=>
     rw[I]at B;cases r with
     | none=>exact⟨_,B,λH h' E D=>D⟩
     | some r=>
       obtain⟨cap,M,O,s,Y,U,B⟩:=B;exact⟨_,B,λH h' E D=>⟨cap,M,O,s,Y,E _ _ U,D⟩⟩
  .exact B.elim
 all_goals exact B.elim
theorem ZX8(o:Oper)(ρ:Operand->LV):∀ k,opA P o ρ k->∃ ob f,k ob f/\∀ D:Obj->(Nat->Value)->Prop,D ob f->opA P o ρ D:=by
 obtain⟨dst,op,type,pos,after,guard⟩:=o;intro k B;cases op;case alloc e=>
  simp only[opA]at B⊢
  split at B
  .exact ⟨_,_,B,λD h=>h⟩
  .exact B.elim
 case box e x=>
  simp only[opA]at B⊢
  split at B
  .exact ⟨_,_,B,λD h=>h⟩
  .exact B.elim
 case buildSlice t n ps=>
  simp only[opA]at B⊢
  split at B
  ·rename_i e l O hl
   split at B
   ·rename_i m z U V
    cases E:Nat.ble (n*m) 16777216 with
    | false=>rw[E]at B;exact B.elim
    | true=>
      rw[E]at B;simp only[XL]at B⊢;split at B
      .rename_i cs S;exact⟨_,_,B,λD h=>h⟩
      .exact B.elim
   .exact B.elim
  .exact B.elim
 case makeSlice t l c=>
  simp only[opA]at B⊢
  split at B
  ·rename_i e W n km m O hl Q
   split at B
   ·cases E:ZEL P e with
    | false=>rw[E]at B;exact B.elim
    | true=>
      rw[E]at B;simp only[XL]at B⊢;obtain⟨H,I,h2,M,B⟩:=B;exact⟨_,_,B,λD h=>⟨H,I,h2,M,h⟩⟩
   .exact B.elim
  .exact B.elim
 case makeChan t n=>
  simp only[opA]at B⊢
  split at B
  .split at B
   .obtain ⟨H,I,h2,B⟩:=B
    exact⟨_,_,B,λD h=>⟨H,I,h2,h⟩⟩
   .exact B.elim
  .exact B.elim
 case makeMap t r=>
  simp only[opA]at B⊢
  split at B
  .exact ⟨_,_,B,λD h=>h⟩
  .exact B.elim
 all_goals exact B.elim
theorem ZOd(o:Oper)(ρ:Operand->LV)(h:Hp)(k k':EV->Hp->Prop)(D:∀ e h',k e h'->k' e h'):opW A P o ρ h k->opW A P o ρ h k':=by
 obtain⟨dst,op,type,pos,after,guard⟩:=o;intro B;cases op
 case store t x y=>
  simp only[opW]at B⊢
  split at B
  ·rename_i c a v W O hy
   cases H:ZAz P c t with
   | false=>rw[H]at B;exact B.elim
   | true=>
     rw[H]at B;simp only[XL]at B⊢;split at B
     .exact ⟨B.1,D _ _ B.2⟩
     .exact B.elim
  .exact B.elim
 case convert s d x=>
  simp only[opW]at B⊢
  split at B
  .split at B
   .exact λcap U b I h2 M=>D _ _ (B cap U b I h2 M)
   .exact B.elim
  ·split at B
   ·cases H:Nat.beq s d with
    | false=>rw[H]at B;exact B.elim
    | true=>
      rw[H]at B;obtain⟨c,e,fz,S,B⟩:=B;exact⟨c,e,fz,S,D _ _ B⟩
   .exact B.elim
  .exact B.elim
 case call c=>
  simp only[opW]at B⊢
  split at B
  ·split at B
   ·split at B
    .exact ⟨B.1,B.2.mono λv h' ⟨x,e,O⟩=>⟨x,e,D _ _ O⟩⟩
    ·split at B
     .split at B
      .split at B
       .exact B.mono λv h' ⟨x,e,O⟩=>⟨x,e,D _ _ O⟩
       .obtain ⟨x,O,B⟩:=B;exact⟨x,O,D _ _ B⟩
      .exact B.elim
     .exact B.elim
   .exact B.elim
  ·rename_i p len cap q n cap' Q hl
   split at B
   ·rename_i t u ht hu
    split at B
    ·rename_i e u' ht' hu'
     split at B
     ·rename_i cd Y
      cases H:(ZAz P cd e&&(Nat.ble 1 (ZA8 P e)&&(Nat.ble (ZA8 P e) 1048576&&ZEL P e))) with
      | false=>rw[H]at B;exact B.elim
      | true=>
        rw[H]at B;simp only[XL]at B⊢;have em:∀ (a:Option Addr) (n:Nat) (K K':List cd.T->Prop),(∀ xs,K xs->K' xs)->ZCS cd a n h K->ZCS cd a n h K':=by
          intro a n K K' V he;cases a with
          | none=>exact⟨he.1,V _ he.2⟩
          | some a=>obtain⟨xs,I,h2,M⟩:=he;exact⟨xs,I,h2,V _ M⟩
        refine em _ _ _ _ ?_ B;rintro ys ⟨I,h2⟩;refine⟨λW=>?_,λW=>?_⟩
        .have:=I W;cases p with
         | none=>exact D _ _ this
         | some ad=>exact⟨this.1,D _ _ this.2⟩
        .obtain ⟨M,Z⟩:=h2 W;refine⟨M,em _ _ _ _ ?_ Z⟩;intro xs h5 nc U h6 h7 b S;exact D _ _ (h5 nc U h6 h7 b S)
     .exact B.elim
    .exact B.elim
   .exact B.elim
  ·rename_i p len cap q n cap' Q hl
   split at B
   ·split at B
    ·split at B
     ·rename_i cd Y
      cases H:ZAz P cd _ with
      | false=>rw[H]at B;exact B.elim
      | true=>
        rw[H]at B;simp only[XL]at B⊢;unfold ZBN at B⊢;unfold ZCS at B⊢;cases q with
        | none=>
          refine⟨B.1,?_⟩;have:=B.2;cases p with
          | none=>exact D _ _ this
          | some ad=>exact⟨this.1,D _ _ this.2⟩
        | some q=>
          obtain⟨xs,I,h2,this⟩:=B;refine⟨xs,I,h2,?_⟩;cases p with
          | none=>exact D _ _ this
          | some ad=>exact⟨this.1,D _ _ this.2⟩
     .exact B.elim
    .exact B.elim
   .exact B.elim
  ·rename_i p n cap Q hl
   split at B
   ·split at B
    ·split at B
     ·rename_i cd z Y hz
      cases H:ZAz P cd _ with
      | false=>rw[H]at B;exact B.elim
      | true=>
        rw[H]at B;simp only[XL]at B⊢;split at B
        .cases p with
         | none=>exact D _ _ B
         | some ad=>exact⟨B.1,D _ _ B.2⟩
        .exact B.elim
     .exact B.elim
    .exact B.elim
   .exact B.elim
  .exact B.elim
 case lookup t x ix ok=>
  simp only[opW]at B⊢
  split at B
  ·split at B
   ·split at B
    .split at B
     .obtain ⟨r,l,E,I,h2,M⟩:=B
      exact⟨r,l,E,I,h2,D _ _ M⟩
     .exact B.elim
    .exact B.elim
   .exact B.elim
  .exact B.elim
 case mapUpdate t x ix y=>
  simp only[opW]at B⊢
  split at B
  ·split at B
   ·split at B
    .split at B
     .obtain ⟨r,l,E,I,h2,M,Z⟩:=B
      exact⟨r,l,E,I,h2,M,D _ _ Z⟩
     .exact B.elim
    .exact B.elim
   .exact B.elim
  .exact B.elim
 case select cs block=>
  simp only[opW]at B⊢
  split at B
  ·split at B
   ·split at B
    ·rename_i c z r W hz hr
     cases r with
     | none=>exact D _ _ B
     | some r=>
       obtain⟨cap,l,s,r',S,B⟩:=B;refine⟨cap,l,s,r',S,?_⟩;cases l with
       | nil=>exact D _ _ B
       | cons v l=>obtain⟨x,O,B⟩:=B;exact⟨x,O,D _ _ B⟩
    .exact B.elim
   ·split at B
    ·rename_i z r v hz hr O
     cases r with
     | none=>exact D _ _ B
     | some r=>
       obtain⟨cap,l,s,r',S,I,h2⟩:=B;exact⟨cap,l,s,r',S,λh=>D _ _ (I h),λh=>D _ _ (h2 h)⟩
    .exact B.elim
  .exact B.elim
 all_goals exact B.elim
variable {ρ ρ':Operand->LV}
theorem ZCp:∀ {l:List Operand},(∀ x∈l,ρ x=ρ' x)->ZIh ρ l=ZIh ρ' l:=by
 intro l;induction l with
 | nil=>intro _;rfl
 | cons x l D=>
   intro h;unfold ZIh;rw[h x (by simp),D λy B=>h y (Xq _ B)]
theorem ZHb:∀ {l:List (Nat×Operand)},(∀ x∈l,ρ x.2=ρ' x.2)->ZDQ ρ l=ZDQ ρ' l:=by
 intro l;induction l with
 | nil=>intro _;rfl
 | cons x l D=>
   intro h;obtain⟨i,x⟩:=x;unfold ZDQ;rw[h (i,x) (by simp),D λy B=>h y (Xq _ B)]
theorem ZIH{o:Option Operand}(h:∀ x∈o,ρ x=ρ' x):o.map ρ=o.map ρ':=by
 cases o with
 | none=>rfl
 | some x=>simp[h x rfl]
theorem ZLL(h:∀ x∈o.op.operands,ρ x=ρ' x):opP A P o ρ=opP A P o ρ':=by
 obtain⟨dst,op,type,pos,after,guard⟩:=o;funext k;cases op<;>simp only[Op.operands]at h<;>simp only[opP];case move x=>rw[h x (by simp)]
 case assign x=>rw[h x (by simp)]
 case pick c a b=>rw[h c (by simp),h a (by simp),h b (by simp)]
 case box e x=>rw[h x (by simp)]
 case build t ps=>rw[ZHb λx B=>h x.2 (by simp;exact⟨x.1,by simpa using B⟩)]
 case nilCheck x=>rw[h x (by simp)]
 case binOp op t x y ty=>rw[h x (by simp),h y (by simp)]
 case unOp op t x=>rw[h x (by simp)]
 case convert s d x=>rw[h x (by simp)]
 case makeInterface t x=>rw[h x (by simp)]
 case makeFunc fn l m=>
  rw[ZCp (l:=l.toList) λx B=>h x (by simp at B⊢;exact .inl B),ZCp (l:=m.toList) λx B=>h x (by simp at B⊢;exact .inr B)]
 case fieldAddr s x f=>rw[h x (by simp)]
 case field s x f=>rw[h x (by simp)]
 case load t x=>rw[h x (by simp)]
 case store t x y=>rw[h x (by simp),h y (by simp)]
 case indexAddr t x i=>rw[h x (by simp),h i (by simp)]
 case index t x i=>rw[h x (by simp),h i (by simp)]
 case slice t x lo hi mx=>
  rw[h x (by simp),ZIH (o:=lo) λy D=>h y (by simp at D⊢;simp[D]),ZIH (o:=hi) λy D=>h y (by simp at D⊢;simp[D]),ZIH (o:=mx) λy D=>h y (by simp at D⊢;simp[D])]
 case extract x i=>rw[h x (by simp)]
 case call c=>rw[ZCp (l:=c.args.toList) λx B=>h x (by simp[Call.operands]at B⊢;exact .inr B)]
theorem ZLQ(h:∀ x∈o.op.operands,ρ x=ρ' x):opC A P o ρ=opC A P o ρ':=by obtain⟨dst,op,type,pos,after,guard⟩:=o;funext k;cases op<;>simp only[Op.operands]at h<;>simp only[opC];case call c=>rw[ZCp (l:=c.args.toList) λx B=>h x (by simp[Call.operands]at B⊢;exact .inr B)]
theorem ZLP(h:∀ x∈o.op.operands,ρ x=ρ' x):opR A P o ρ=opR A P o ρ':=by
 obtain⟨dst,op,type,pos,after,guard⟩:=o;funext hp k;cases op<;>simp only[Op.operands]at h<;>simp only[opR];case load t x=>rw[h x (by simp)]
 case convert s d x=>rw[h x (by simp)]
 case call c=>rw[ZCp (l:=c.args.toList) λx B=>h x (by simp[Call.operands]at B⊢;exact .inr B)]
theorem ZLK(h:∀ x∈o.op.operands,ρ x=ρ' x):opA P o ρ=opA P o ρ':=by
 obtain⟨dst,op,type,pos,after,guard⟩:=o;funext k;cases op<;>simp only[Op.operands]at h<;>simp only[opA];case box e x=>rw[h x (by simp)]
 case buildSlice t n ps=>rw[ZHb λx B=>h x.2 (by simp;exact⟨x.1,by simpa using B⟩)]
 case makeSlice t x y=>rw[h x (by simp),h y (by simp)]
 case makeChan t x=>rw[h x (by simp)]
theorem ZLx(h:∀ x∈o.op.operands,ρ x=ρ' x):opW A P o ρ=opW A P o ρ':=by
 obtain⟨dst,op,type,pos,after,guard⟩:=o;funext hp k;cases op<;>simp only[Op.operands]at h<;>simp only[opW];case store t x y=>rw[h x (by simp),h y (by simp)]
 case convert s d x=>rw[h x (by simp)]
 case lookup t x y ok=>rw[h x (by simp),h y (by simp)]
 case mapUpdate t x y z=>rw[h x (by simp),h y (by simp),h z (by simp)]
 case select cs block=>
  split
  .rename_i I
   have E:=h I.chan (by simp)
   rw[E]
   split
   .rfl
   .rename_i x D
    have h2:=h x (by simp[D])
    rw[h2]
  .rfl
 case call c=>
  rw[ZCp (l:=c.args.toList) λx D=>h x (by simp[Call.operands]at D⊢;exact .inr D)]
  obtain⟨B,args,ats⟩:=c
  cases B with
  | value f=>
    have H:=h f (by simp[Call.operands]);cases ZIh ρ' args.toList with
    | none=>rfl
    | some l=>dsimp only;rw[H]
  | invoke r m=>rfl
  | builtin b=>
    rcases ZIh ρ' args.toList with _|l
    .cases b<;>rfl
    .rcases l with _|⟨v,_|⟨u,_|⟨z,l⟩⟩⟩<;>cases b<;>first|rfl|(cases v<;>first|rfl|(cases u<;>rfl))
def ZMq(A:Ann)(x:Operand):List Nat:=
 match x with
 | .tmp t=>t::(A.refOf t).toList
 | _=>[]
def ZDa(A:Ann)(ops:Array Oper)(o:Oper):List Nat:=
 o.op.operands.toList.flatMap (ZMq A)++(match ZB1 ops o with
  | some (s,_)=>s::(A.refOf s).toList
  | none=>[])
def ZA1(A:Ann)(o:Oper):List Nat:=o.dst.toList++(ZA9 A o).toList
def ZBR(A:Ann)(d e:Nat):Bool:=!Nat.beq d e&&(!ZAg (A.refOf d) e&&!ZAg (A.refOf e) d)
theorem ZWz(O:A.good){x:Operand}(E:d∉ZMq A x):look A (put A env (some d) ev) x=look A env x:=by
 cases x with
 | tmp t=>
   simp only[ZMq,Xm,Option.mem_toList,not_or]at E;obtain⟨M,h2⟩:=E;have I:put A env (some d) ev t=env t:=by
    rcases ZBn (A:=A) (env:=env) ev (Ne.symm M)with h|⟨_,_,D⟩
    .exact h
    .exact absurd D h2
   simp only[look,I];cases U:env t with
   | val v=>rfl
   | box cs=>rfl
   | unk=>rfl
   | ref off=>
     simp only;cases S:A.refOf t with
     | none=>rfl
     | some H=>
       have Q:H≠d:=by rintro rfl;exact h2 S
       cases B:A.isProm H with
       | false=>simp only[B,Yu]
       | true=>
         simp only[B,XL];rcases ZBn (A:=A) (env:=env) ev Q with h|⟨_,_,D⟩
         .rw [h]
         .rw [O _ _ D]at B;cases B
 | const v=>rfl
 | func f=>rfl
 | global g=>rfl
variable {env2:Env}
def ZBA(A:Ann)(ops:Array Oper)(o:Oper)(env env2:Env):Prop:=
 (∀ x∈o.op.operands,look A env x=look A env2 x)/\∀ s want,ZB1 ops o=some (s,want)->env s=env2 s
def ZDy(cl:Cls)(h h':Hp):Prop:=
 match cl with
 | .w=>True
 | .a=>h'=h\/∃ b o,h b=none/\h'=h.upd b o
 | _=>h'=h
theorem ZK5(B:Cls)(h:Hp):ZDy B h h:=by cases B<;>first|rfl|trivial|exact .inl rfl
theorem ZUf.agree(B:ZUf ops o env g)(H:ZBA A ops o env env2):ZUf ops o env2 g:=by
 cases B with
 | free B=>exact .free B
 | at_ s want b g B D E=>exact .at_ s want b g B D (by rw[<-H.2 s want D];exact E)
 | not_ s want g B D E=>exact .not_ s want g B D (by rw[<-H.2 s want D];exact E)
variable {K':Env->Hp->Prop}
theorem ZQB(B:ZHT A P o env h K)(H:ZBA A ops o env env2)(D:∀ d,d=o.dst\/d=ZA9 A o->∀ e h',ZDy (cls A P o) h h'->K (put A env d e) h'->K' (put A env2 d e) h'):ZHT A P o env2 h K':=by
 unfold ZHT at B⊢;cases I:cls A P o with
 | p=>
   rw[I]at B D;dsimp only at B⊢;rw[ZLL H.1]at B;obtain⟨e,E,h2⟩:=ZRY o _ _ B;exact h2 _ (D _ (.inr rfl) e h rfl E)
 | c=>
   rw[I]at B D;dsimp only at B⊢;rw[ZLQ H.1]at B;obtain⟨e,E,h2⟩:=ZSX o _ _ B;exact h2 _ (D _ (.inl rfl) e h rfl E)
 | r=>
   rw[I]at B D;dsimp only at B⊢;rw[ZLP H.1]at B;obtain⟨e,E,h2⟩:=ZNt o _ _ _ B;exact h2 _ _ (Hp.sub_refl h) (D _ (.inl rfl) e h rfl E)
 | a=>
   rw[I]at B D;dsimp only at B⊢;rw[ZLK H.1]at B;obtain⟨ob,f,E,h2⟩:=ZX8 o _ _ B;exact h2 _ λb M=>D _ (.inl rfl) _ _ (.inr ⟨b,ob,M,rfl⟩) (E b M)
 | w=>
   rw[I]at B D;dsimp only at B⊢;rw[ZLx H.1]at B;exact ZOd o _ h _ _ (λe h' B=>D _ (.inl rfl) e h' trivial B) B
theorem ZC7(M:ZAi A P N ops o env h K)(D:ZBA A ops o env env2)(B:∀ d,d=o.dst\/d=ZA9 A o->∀ e h',ZDy (cls A P o) h h'->K (put A env d e) h'->K' (put A env2 d e) h'):ZAi A P N ops o env2 h K':=by
 obtain⟨H,g,I,E,h2⟩:=ZEi M;exact ZAX H (I.agree D) (λe=>ZQB (E e) D B) (λe=>B _ (.inl rfl) (.val undef) h (ZK5 _ h) (h2 e))
theorem ZBA.refl(o:Oper)(env:Env):ZBA A ops o env env:=⟨λ_ _=>rfl,λ_ _ _=>rfl⟩
theorem ZAI(D:ZAi A P N ops o env h K)(B:∀ e h',K e h'->K' e h'):ZAi A P N ops o env h K':=
 ZC7 D (ZBA.refl o env) λ_ _ _ _ _ D=>B _ _ D
def ZVC(cl:Cls):Bool:=
 match cl with
 | .p|.c|.r=>true
 | _=>false
theorem ZK1(hl:ZVC (cls A P o)=true)(S:ZAi A P N ops o env h K):
 ∃ d e,(d=o.dst\/d=ZA9 A o)/\K (put A env d e) h/\
  ∀ env2 h2 K',ZBA A ops o env env2->(cls A P o=.r->h.sub h2)->K' (put A env2 d e) h2->ZAi A P N ops o env2 h2 K':=by
 obtain⟨M,g,O,Q,h2⟩:=ZEi S;cases g with
 | false=>exact⟨o.dst,.val undef,.inl rfl,h2 rfl,λenv2 h2 K' D _ B=>ZAX M (O.agree D) (λe=>by cases e) (λ_=>B)⟩
 | true=>
   have H:=Q rfl;unfold ZHT at H;cases E:cls A P o with
   | p=>
     rw[E]at H;obtain⟨e,k1,I⟩:=ZRY o _ _ H;refine⟨ZA9 A o,e,.inr rfl,k1,λenv2 h2 K' D _ B=>ZAX M (O.agree D) (λ_=>?_) (λe=>by cases e)⟩;unfold ZHT;rw[E];dsimp only;rw[<-ZLL D.1];exact I _ B
   | c=>
     rw[E]at H;obtain⟨e,k1,I⟩:=ZSX o _ _ H;refine⟨o.dst,e,.inl rfl,k1,λenv2 h2 K' D _ B=>ZAX M (O.agree D) (λ_=>?_) (λe=>by cases e)⟩;unfold ZHT;rw[E];dsimp only;rw[<-ZLQ D.1];exact I _ B
   | r=>
     rw[E]at H;obtain⟨e,k1,I⟩:=ZNt o _ _ _ H;refine⟨o.dst,e,.inl rfl,k1,λenv2 h2 K' D U B=>ZAX M (O.agree D) (λ_=>?_) (λe=>by cases e)⟩;unfold ZHT;rw[E];dsimp only;rw[<-ZLP D.1];exact I _ _ (U rfl) B
   | a=>rw[E]at hl;cases hl
   | w=>rw[E]at hl;cases hl
def ZFw(A:Ann)(ops:Array Oper)(x y:Oper):Bool:=
 (ZA1 A x).all (λd=>!(ZDa A ops y).contains d&&(ZA1 A y).all λe=>ZBR A d e)&&
 (ZA1 A y).all λe=>!(ZDa A ops x).contains e
theorem ZCr(B:some d=o.dst\/some d=ZA9 A o):d∈ZA1 A o:=by unfold ZA1;rcases B with h|h<;>rw[<-h]<;>simp
theorem ZDU(E:A.good)(B:d∉ZDa A ops o)(ev:EV):ZBA A ops o (put A env (some d) ev) env:=by
 unfold ZDa at B;simp only[Xx,List.mem_flatMap,not_or,not_exists,not_and]at B;refine⟨λx I=>ZWz E (B.1 x (by simpa using I)),λs want H=>?_⟩;have h2:=B.2;rw[H]at h2;simp only[Xm,Option.mem_toList,not_or]at h2;rcases ZBn (A:=A) (env:=env) ev (Ne.symm h2.1)with h|⟨_,_,D⟩
 .exact h
 .exact absurd D h2.2
theorem ZBA.symm(B:ZBA A ops o env env2):ZBA A ops o env2 env:=⟨λx E=>(B.1 x E).symm,λs w D=>(B.2 s w D).symm⟩
theorem ZDM{e:Nat}:ZBR A d e=true↔d≠e/\A.refOf d≠some e/\A.refOf e≠some d:=by
 unfold ZBR;simp only[Xf,Ym];rw[ZUY];constructor
 .rintro ⟨D,h2,B⟩;exact⟨D,λh=>(by rw[ZBM.2 h]at h2;cases h2),λh=>(by rw[ZBM.2 h]at B;cases B)⟩
 .rintro ⟨D,h2,B⟩;refine⟨D,?_,?_⟩
  .cases E:ZAg (A.refOf d) e with
   | false=>rfl
   | true=>exact absurd (ZBM.1 E) h2
  .cases E:ZAg (A.refOf e) d with
   | false=>rfl
   | true=>exact absurd (ZBM.1 E) B
theorem ZVw{e:Nat}(h:ZBR A d e=true)(u v:EV):put A (put A env (some d) u) (some e) v=put A (put A env (some e) v) (some d) u:=by
 obtain⟨H,h2,I⟩:=ZDM.1 h;funext s;by_cases D:s=d
 .subst D;rw[ZCP];rcases ZBn (A:=A) (env:=put A env (some s) u) v H with h|⟨_,_,B⟩
  .rw [h,ZCP]
  .exact absurd B h2
 .by_cases E:s=e
  .subst E;rw[ZCP];rcases ZBn (A:=A) (env:=put A env (some s) v) u D with h|⟨_,_,B⟩
   .rw [h,ZCP]
   .exact absurd B I
  .simp only[put,ZUY.2 D,ZUY.2 E,Yu];cases (A.isProm e&&ZAg (A.refOf s) e)<;>cases (A.isProm d&&ZAg (A.refOf s) d)<;>rfl
variable {x y:Oper}
theorem ZGT:ZFw A ops x y=true↔(∀ d∈ZA1 A x,d∉ZDa A ops y/\∀ e∈ZA1 A y,ZBR A d e=true)/\∀ e∈ZA1 A y,e∉ZDa A ops x:=by unfold ZFw;simp only[Xf,Wn,Ym,VZ,Wc]
variable {d:Option Tmp}
theorem ZFv(B:ZFw A ops x y=true){e:Option Tmp}(D:d=x.dst\/d=ZA9 A x)(E:e=y.dst\/e=ZA9 A y)(u v:EV):
 put A (put A env d u) e v=put A (put A env e v) d u:=by
 cases d with
 | none=>rfl
 | some d=>
   cases e with
   | none=>rfl
   | some e=>exact ZVw ((ZGT.1 B).1 d (ZCr D) |>.2 e (ZCr E)) u v
theorem ZDm(D:A.good)(B:ZFw A ops x y=true)(E:d=x.dst\/d=ZA9 A x)(u:EV):ZBA A ops y (put A env d u) env:=by
 cases d with
 | none=>exact ZBA.refl y env
 | some d=>exact ZDU D ((ZGT.1 B).1 d (ZCr E)).1 u
theorem ZDx(D:A.good)(B:ZFw A ops x y=true){e:Option Tmp}(E:e=y.dst\/e=ZA9 A y)(u:EV):ZBA A ops x (put A env e u) env:=by
 cases e with
 | none=>exact ZBA.refl x env
 | some e=>exact ZDU D ((ZGT.1 B).2 e (ZCr E)) u
def ZTP(ca cb:Cls):Bool:=
 match ca,cb with
 | .p,_=>true
 | .c,_=>true
 | .r,.w=>false
 | .r,_=>true
 | _,_=>false
theorem swap(Q:A.good)(E:ZTP (cls A P x) (cls A P y)=true)(D:ZFw A ops x y=true)(hk:ZAi A P N ops x env h λM O=>ZAi A P N ops y M O K):ZAi A P N ops y env h λM O=>ZAi A P N ops x M O K:=by
 have hl:ZVC (cls A P x)=true:=by cases hx:cls A P x<;>rw[hx]at E<;>first|rfl|cases E
 obtain⟨d,e,S,U,V⟩:=ZK1 hl hk;refine ZC7 U (ZDm Q D S e) ?_;intro d2 H W h' B Y;refine V _ _ _ (ZDx Q D H W).symm ?_ ?_
 ·intro hr;rw[hr]at E;cases I:cls A P y with
  | p=>rw[I]at B;simp only[ZDy]at B;rw[B];exact Hp.sub_refl h
  | c=>rw[I]at B;simp only[ZDy]at B;rw[B];exact Hp.sub_refl h
  | r=>rw[I]at B;simp only[ZDy]at B;rw[B];exact Hp.sub_refl h
  | a=>
    rw[I]at B;rcases B with rfl|⟨b,o,Z,rfl⟩
    .exact Hp.sub_refl _
    .exact Hp.sub_upd Z o
  | w=>rw[I]at E;cases E
 .rw [<-ZFv D S H];exact Y
theorem ZVt(hA:A.good)(hc:cls A P x=.r)(hap:ZFw A ops x y=true)(hself:(ZA1 A x).all (λd=>!(ZDa A ops x).contains d)=true)(hk:ZAi A P N ops x env h λe1 V=>ZAi A P N ops y e1 V λM h2=>ZKW A x M h2/\K M h2):ZAi A P N ops y env h λe1 V=>ZAi A P N ops x e1 V K:=by
 obtain⟨hdo,g,hg,V,h2⟩:=ZEi hk
 have hsl:∀ d,some d=x.dst\/some d=ZA9 A x->d∉ZDa A ops x:=by
  intro d hd
  have:=Wn.1 hself d (ZCr hd)
  simpa using this
 -- kept says: it is a load,and was carried out
 have fin:∀ (u:EV),ZAi A P N ops y (put A env x.dst u) h (λM h2=>ZKW A x M h2/\K M h2)->(g=true->∀ t ox,x.op=.load t ox->u≠.val undef/\∀ c,A.cdc t=some c->ZAz P c t=true)->
  (g=true->∀ s d ox,x.op=.convert s d ox->u≠.val undef/\∃ e,P.underlying s=some (.slice e)/\P.underlying d=some .string/\P.underlying e=some (.int .u8))->
  (g=false->u=.val undef)->ZAi A P N ops y env h λe1 V=>ZAi A P N ops x e1 V K:=by
  intro u HY hfit hcv hgu
  refine ZC7 HY (ZDm hA hap (.inl rfl) u) ?_
  intro d2 hd2 M h' _ ⟨B,hK⟩
  have Z:=(ZDx (env:=env) hA hap hd2 M)
  have envF:put A (put A env x.dst u) d2 M=put A (put A env d2 M) x.dst u:=ZFv hap (.inl rfl) hd2 u M
  rw[envF]at B hK
  unfold ZKW at B
  split at B
  ·rename_i t ox D
   split at B
   ·rename_i d Q
    split at B
    ·rename_i v hv
     have U:u=.val v:=by
          rw[Q,ZCP]at hv;exact hv
     split at B
     ·
      have H:g=false:=by
          cases g with
          | false=>rfl
          | true=>exact absurd U (hfit rfl t ox D).1
      refine ZAX hdo (hg.agree Z.symm) (λe=>by rw[H]at e;cases e) (λ_=>?_)
      rw[U]at hK
      exact hK
     ·rename_i hnt
      split at B
      ·rename_i c ad hcd S
       split at B
       ·rename_i z hz
        have H:g=true:=by
                  cases g with
                  | true=>rfl
                  | false=>rw[hgu rfl]at U;cases U;exact absurd rfl (hnt ·)
        have hlaw:=c.law _ _ hz
        refine ZAX hdo (hg.agree Z.symm) (λ_=>?_) (λe=>by rw[H]at e;cases e)
        unfold ZHT
        rw[hc]
        dsimp only
        have I:look A (put A env d2 M) ox=.v (.pointer (some ad)):=by
                  have hm:ox∈x.op.operands:=by rw[D];simp[Op.operands]
                  have:=(ZDU (env:=put A env d2 M) hA (hsl d (.inl Q.symm)) u).1 ox hm
                  rw[<-this,<-Q];exact S
        simp only[opR,D,hcd,I,(hfit H t ox D).2 c hcd,XL]
        exact⟨z,B,by show K (put A (put A env d2 M) x.dst (EV.val (c.enc z))) h';rw[hlaw,<-U];exact hK⟩
       .exact B.elim
      .exact B.elim
    .exact B.elim
   .exact B.elim
  ·rename_i t1 t2 ox D
   split at B
   ·rename_i d Q
    split at B
    ·rename_i v hv
     have U:u=.val v:=by
          rw[Q,ZCP]at hv;exact hv
     split at B
     ·have H:g=false:=by
          cases g with
          | false=>rfl
          | true=>exact absurd U (hcv rfl t1 t2 ox D).1
      refine ZAX hdo (hg.agree Z.symm) (λe=>by rw[H]at e;cases e) (λ_=>?_)
      rw[U]at hK
      exact hK
     ·rename_i s
      split at B
      ·rename_i ad len cap S
       have H:g=true:=by
             cases g with
             | true=>rfl
             | false=>rw[hgu rfl]at U;cases U
       refine ZAX hdo (hg.agree Z.symm) (λ_=>?_) (λe=>by rw[H]at e;cases e)
       unfold ZHT
       rw[hc]
       dsimp only
       have I:look A (put A env d2 M) ox=.v (.slice ad len cap):=by
             have hm:ox∈x.op.operands:=by rw[D];simp[Op.operands]
             have:=(ZDU (env:=put A env d2 M) hA (hsl d (.inl Q.symm)) u).1 ox hm
             rw[<-this,<-Q];exact S
       obtain⟨_,e',hu1,hu2,hu3⟩:=hcv H t1 t2 ox D
       simp only[opR,D,hu1,hu2,hu3,I]
       rw[U]at hK
       cases ad with
       | none=>have:ByteArray.empty=s:=B;subst this;exact hK
       | some ad=>
         obtain⟨xs,V,h2,h3⟩:=B
         exact⟨xs,V,h2,by rw[h3];exact hK⟩
      .exact B.elim
     .exact B.elim
    .exact B.elim
   .exact B.elim
  .exact B.elim
 cases g with
 | false=>exact fin (.val undef) (h2 rfl) (λe=>by cases e) (λe=>by cases e) (λ_=>rfl)
 | true=>
   have O:=V rfl
   unfold ZHT at O
   rw[hc]at O
   dsimp only at O
   by_cases Y:∃ t ox,x.op=.load t ox
   ·obtain⟨t,ox,D⟩:=Y
    simp only[opR,D]at O
    split at O
    ·rename_i c ad hcd hx
     cases hq:ZAz P c t with
     | false=>rw[hq]at O;exact O.elim
     | true=>
       rw[hq]at O
       obtain⟨y,_,hk⟩:=O
       refine fin _ hk ?_ (λ_ s d ox' E=>by rw[D]at E;cases E) (λe=>by cases e)
       intro _ t' ox' E
       rw[D]at E
       cases E
       refine⟨?_,λc' hc'=>by rw[hcd]at hc';cases hc';exact hq⟩
       intro U
       have hm:c.mem=true:=by
          simp only[ZAz,Xf]at hq
          exact hq.1.1
       have hf:=c.form hm y
       have U:c.enc y=undef:=by injection U
       rw[U]at hf
       split at hf
       .obtain ⟨cs,h,_⟩:=hf;cases h
       .cases hf.1
    .exact O.elim
   ·by_cases W:∃ s d ox,x.op=.convert s d ox
    ·obtain⟨s,d,ox,D⟩:=W
     simp only[opR,D]at O
     split at O
     ·rename_i e ad len cap hs hd hx
      split at O
      ·rename_i he
       have key:∀ st,(ZAi A P N ops y (put A env x.dst (.val (.string st))) h λM h2=>ZKW A x M h2/\K M h2)->ZAi A P N ops y env h λe1 V=>ZAi A P N ops x e1 V K:=by
            intro st hk
            refine fin _ hk (λ_ t ox E=>by rw[D]at E;cases E) ?_ (λe=>by cases e)
            intro _ s' d' ox' E
            rw[D]at E;cases E
            exact⟨by simp[undef],e,hs,hd,he⟩
       cases ad with
       | none=>exact key _ O
       | some ad=>obtain⟨xs,_,_,hk⟩:=O;exact key _ hk
      .exact O.elim
     .exact O.elim
    .obtain ⟨e,k1,_⟩:=ZNt x _ _ _ O
     exact fin e k1 (λ_ t ox D=>absurd ⟨t,ox,D⟩ Y) (λ_ s d ox D=>absurd ⟨s,d,ox,D⟩ W) (λe=>by cases e)
def Hp.fin(h:Hp):Prop:=∃ n,∀ b,n<=b->h b=none
theorem Hp.fin_fresh(f:h.fin):∃ b,h b=none:=by obtain⟨n,B⟩:=f;exact⟨n,B n (Xc _)⟩
theorem Hp.fin_upd(f:h.fin)(b:Nat)(o:Obj):(h.upd b o).fin:=by obtain⟨n,B⟩:=f;refine⟨n+b+1,λk D=>?_⟩;unfold Hp.upd;rw[Xd (by omega)];exact B k (by omega)
theorem Hp.fin_le(l:h.le w):h.fin:=⟨w.heap.size,λ_ B=>Hp.le_lt l B⟩
theorem Hp.fin_wrs(f:h.fin)(a:Addr)(vs:List Value)(i:Nat):(h.wrs a i vs).fin:=by obtain⟨n,D⟩:=f;exact⟨n,λb B=>(ZHE a vs i h b).2 (D b B)⟩
def ZM7(n:Nat)(h:Hp):World:={heap:=(List.range n).toArray.map λi=>(h i).getD default,tape:=λ_ _=>0,drawn:=0,os:=default,output:=#[]}
theorem ZP1(E:∀ b,n<=b->h b=none):h.le (ZM7 n h):=by
 intro b o B;have D:b<n:=by
  rcases WB b n with h'|h'
  .exact h'
  .rw [E b h']at B;cases B
 simp[ZM7,D,B]
theorem Hp.upd_upd{c:Nat}(D:b≠c)(o p:Obj):(h.upd b o).upd c p=(h.upd c p).upd b o:=by
 funext k;unfold Hp.upd;by_cases B:k=c
 .subst B;rw[Xe rfl,Xd (Ne.symm D),Xe rfl]
 .rw [Xd B];by_cases h2:k=b
  .rw [Xe h2,Xe h2]
  .rw [Xd h2,Xd h2,Xd B]
variable {o:Obj}
theorem Hp.upd_none{c:Nat}(B:(h.upd b o) c=none):c≠b/\h c=none:=by
 unfold Hp.upd at B;split at B
 .cases B
 .rename_i D;exact⟨D,B⟩
theorem Hp.upd_ne{c:Nat}(B:c≠b):(h.upd b o) c=h c:=by unfold Hp.upd;rw[Xd B]
theorem Hp.un_one(D:h b=none)(o:Obj):h.un (Hp.one b o)=h.upd b o:=by
 funext k;unfold Hp.un Hp.one Hp.upd;by_cases B:k=b
 .subst B;simp[D]
 .simp only[Xd B];cases h k<;>rfl
theorem Hp.dj_one:h.dj (Hp.one b o)↔h b=none:=by
 constructor
 .intro d;rcases d b with e|e
  .exact e
  .simp [Hp.one]at e
 .intro D k;by_cases B:k=b
  .subst B;exact .inl D
  .right;simp[Hp.one,B]
theorem ZHn.wit(s:ZHn P f args h R)(D:h.fin):∃ v h',R v h':=by obtain⟨n,H⟩:=D;obtain⟨e,w',_,⟨v,h',_,B,_⟩,_⟩:=s (ZM7 n h) Hp.emp (ZP1 H) (λ_ _ E=>by cases E) (λ_=>.inr rfl) [];exact⟨v,h',B⟩
theorem ZHn.fin(s:ZHn P f args h R):ZHn P f args h λv h'=>R v h'/\h'.fin:=λw fr a b c=>
 (s w fr a b c).mono λ_ _ ⟨v,h',D,B,rest⟩=>⟨v,h',D,⟨B,Hp.fin_le rest.1⟩,rest⟩
theorem ZHn.upd(s:ZHn P f args h R)(D:h b=none)(o:Obj):ZHn P f args (h.upd b o) λv h2=>∃ B,h2=B.upd b o/\B b=none/\R v B:=by
 have:=s.frame (g:=Hp.one b o) (Hp.dj_one.2 D);rw[Hp.un_one D]at this;refine this.mono λv h' ⟨B,H,I,E⟩=>⟨B,?_,Hp.dj_one.1 E,H⟩
 rw[I,Hp.un_one (Hp.dj_one.1 E)]
def ZUS(o:Oper):Bool:=
 match o.op with
 | .call c=>match c.callee with
   | .value _=>true
   | .builtin .append=>true
   | _=>false
 | _=>false
theorem ZRa{b:Nat}{o:Obj}:∀ (vs:List Value) (h:Hp) (a:Addr) (i:Nat),a.block≠b->(h.upd b o).wrs a i vs=(h.wrs a i vs).upd b o
 | [],_,_,_,_=>rfl
 | v::l,h,a,i,hne=>by
   have e:(h.upd b o).setCell (a.add i) v=(h.setCell (a.add i) v).upd b o:=by
    funext k;unfold Hp.setCell Hp.upd;rw[ZLR];by_cases B:k=a.block
    .subst B;simp[hne]
    .by_cases h2:k=b
     .simp [h2,Ne.symm hne]
     .simp [B,h2]
   show ((h.upd b o).setCell (a.add i) v).wrs a (i+1) l=((h.setCell (a.add i) v).wrs a (i+1) l).upd b o;rw[e];exact ZRa l _ a (i+1) hne
variable {a:Option Addr}{h2:Hp}
theorem ZDs{K K':List c.T->Prop}(M:h.sub h2)(D:ZCS c a n h K)(B:∀ xs,xs.length=n->K xs->K' xs):ZCS c a n h2 K':=by
 cases a with
 | none=>exact⟨D.1,B _ D.1.symm D.2⟩
 | some a=>obtain⟨xs,E,H,I⟩:=D;exact⟨xs,E,Hp.sub_rds M H,B _ E I⟩
theorem ZJX{K:List c.T->Prop}(B:ZCS c a n h K):∃ xs,xs.length=n/\K xs:=by
 cases a with
 | none=>exact⟨[],B.1.symm,B.2⟩
 | some a=>obtain⟨xs,D,_,E⟩:=B;exact⟨xs,D,E⟩
theorem ZY6(H:h b=none){a:Addr}(m:h.may a n):(h.upd b o).may a n:=by
 intro i hi;obtain⟨⟨v,E⟩,hf⟩:=m i hi;have B:=Hp.cell_block E;have D:(a.add i).block≠b:=by rintro e;rw[e]at B;exact B H
 refine⟨⟨v,?_⟩,?_⟩
 .unfold Hp.cell? at E⊢;rw[Hp.upd_ne D];exact E
 .unfold Hp.frozen? at hf⊢;rw[Hp.upd_ne D];exact hf
variable {b:Option Addr}{K:Option Addr->Nat->Nat->Hp->Prop}
theorem ZNH(O:ZR c e bytes a len cap b n h K)(M:h.fin):∃ a l c h',K a l c h':=by
 obtain⟨ys,_,D,h2⟩:=ZJX O;by_cases I:len+n<=cap
 .have:=D I;cases a with
  | none=>exact⟨_,_,_,_,this⟩
  | some ad=>exact⟨_,_,_,_,this.2⟩
 .obtain ⟨_,E⟩:=h2 (by omega);obtain⟨xs,_,H⟩:=ZJX E;obtain⟨Q,B⟩:=Hp.fin_fresh M;exact⟨_,_,_,_,H (len+n) [] (Xc _) (by simp) Q B⟩
theorem ZL5{K':Option Addr->Nat->Nat->Hp->Prop}(W:ZR c e bytes a len cap b n h K)(E:h.fin)(B:∀ a l c h',h'.fin->K a l c h'->K' a l c h'):ZR c e bytes a len cap b n h K':=by
 refine ZDs (Hp.sub_refl h) W λys _ ⟨I,h2⟩=>⟨λD=>?_,λD=>?_⟩
 .have:=I D;cases a with
  | none=>exact B _ _ _ _ E this
  | some ad=>exact⟨this.1,B _ _ _ _ (Hp.fin_wrs E _ _ _) this.2⟩
 .obtain ⟨M,O⟩:=h2 D;exact⟨M,ZDs (Hp.sub_refl h) O λxs _ Q Z H S U Y V=>B _ _ _ _ (Hp.fin_upd E _ _) (Q Z H S U Y V)⟩
theorem ZMj(hm:c.mem=true)(hk:ZR c e bytes a len cap b n h K){q:Nat}(B:h q=none)(o:Obj):
 ZR c e bytes a len cap b n (h.upd q o) λa l c h2=>∃ D,h2=D.upd q o/\D q=none/\K a l c D:=by
 refine ZDs (Hp.sub_upd B o) hk λys O ⟨D,h2⟩=>⟨λI=>?_,λI=>?_⟩
 ·have:=D I;cases a with
  | none=>exact⟨h,rfl,B,this⟩
  | some ad=>
    refine⟨ZY6 B this.1,_,?_,(ZHE _ _ _ _ _).2 B,this.2⟩;by_cases S:ZO c ys=[]
    .rw [S];rfl
    .refine ZRa _ _ _ _ ?_;have E:0<n*c.n:=by have:=Zi hm ys;rw[O]at this;have h9:(ZO c ys).length≠0:=λe=>S (WJ.1 e);omega
     have:=ZDT this.1 E;rintro e;rw[e]at this;exact this B
 .obtain ⟨U,V⟩:=h2 I;refine⟨U,ZDs (Hp.sub_upd B o) V λxs _ W nc Q Y Z nb hb=>?_⟩;obtain⟨H,M⟩:=Hp.upd_none hb;exact⟨_,(Hp.upd_upd (Ne.symm H) _ _),by rw[Hp.upd_ne (Ne.symm H)];exact B,W nc Q Y Z nb M⟩
structure Zbf (T:Hp->(EV->Hp->Prop)->Prop) (h:Hp):Prop where
 wit:∀ k,T h k->h.fin->∃ e h',k e h'
 fin:∀ k,T h k->h.fin->T h λe h'=>h'.fin/\k e h'
 upd:∀ k,T h k->∀ b o,h b=none->T (h.upd b o) λe h2=>∃ h1,h2=h1.upd b o/\h1 b=none/\k e h1
theorem ZEw(h:Hp):Zbf (λ_ _=>False) h:=⟨λ_ e=>e.elim,λ_ e=>e.elim,λ_ e=>e.elim⟩
variable {args:List Value}{g:FuncId}{r:Cdc}
theorem ZFa:Zbf (λh k=>ZA P g args r h λy h'=>k (.val (r.enc y)) h') h:=by
 refine⟨λk B E=>?_,λk B E=>?_,λk B b o I=>?_⟩
 .obtain ⟨v,h',x,_,D⟩:=ZHn.wit B E;exact⟨_,_,D⟩
 .exact (ZHn.fin B).mono λv h' ⟨⟨x,e,D⟩,hf'⟩=>⟨x,e,hf',D⟩
 .exact (ZHn.upd B I o).mono λv h2 ⟨H,e,M,x,ex,D⟩=>⟨x,ex,H,e,M,D⟩
theorem ZO3{K K':r.T->Prop}(H:h.sub h2)(D:ZN7 P g args r h K)(B:∀ x,K x->K' x):ZN7 P g args r h2 K':=by obtain⟨x,M,D⟩:=D;exact⟨x,λw I=>M w λb o E=>I b o (H b o E),B x D⟩
theorem ZUq:Zbf (λh k=>ZN7 P g args r h λy=>k (.val (r.enc y)) h) h:=by
 refine⟨λk B H=>?_,λk B H=>?_,λk B b o E=>?_⟩
 .obtain ⟨x,_,D⟩:=B;exact⟨_,_,D⟩
 .exact ZO3 (Hp.sub_refl h) B λx D=>⟨H,D⟩
 .exact ZO3 (Hp.sub_upd E o) B λx D=>⟨h,rfl,E,D⟩
variable {o:Oper}
theorem ZOJ(I:ZUS o=true)(ρ:Operand->LV)(h:Hp):Zbf (opW A P o ρ) h:=by
 obtain⟨dst,op,type,pos,after,guard⟩:=o;cases op<;>simp only[ZUS]at I<;>try cases I
 rename_i c;obtain⟨E,args,ats⟩:=c;cases E with
 | value f=>
   have e:∀ h k,opW A P ⟨dst,.call ⟨.value f,args,ats⟩,type,pos,after,guard⟩ ρ h k=(match ZIh ρ args.toList with
    | some l=>(match ρ f with
      | .v (.func (.func g) first captured)=>match Za9 A f with
        | some r=>ZBe P g first captured l r h λy h'=>k (.val (r.enc y)) h'
        | none=>match A.res g with
          | some r=>match P.funcs[g]? with
            | some fn=>match fn.body with
              | some _=>ZA P g (first.toList++(l++captured.toList)) r h λy h'=>k (.val (r.enc y)) h'
              | none=>ZN7 P g (first.toList++(l++captured.toList)) r h λy=>k (.val (r.enc y)) h
            | none=>False
          | none=>False
      | _=>False)
    | none=>False):=by
    intro h k
    simp only[opW]
    cases ZIh ρ args.toList<;>rfl
   rw[show opW A P ⟨dst,.call ⟨.value f,args,ats⟩,type,pos,after,guard⟩ ρ=_ from funext λh=>funext λk=>e h k];split
   ·split
    ·split
     .refine ⟨λk B H=>ZFa.wit k B.2 H,λk B H=>⟨B.1,ZFa.fin k B.2 H⟩,λk B b o O=>⟨B.1,ZFa.upd k B.2 b o O⟩⟩
     ·split
      .split
       .split
        .exact ZFa
        .exact ZUq
       .exact ZEw h
      .exact ZEw h
    .exact ZEw h
   .exact ZEw h
 | invoke r m=>cases I
 | builtin b=>
   cases b<;>simp only at I<;>try cases I
   refine⟨λk B H=>?_,λk B H=>?_,λk B b o O=>?_⟩
   all_goals
    simp only[opW]at B⊢
    split at B
    .rename_i D hl;cases D
    ·rename_i p len cap q n cap' hl
     split at B
     ·split at B
      ·split at B
       ·rename_i cd U
        cases M:(ZAz P cd _&&(Nat.ble 1 (ZA8 P _)&&(Nat.ble (ZA8 P _) 1048576&&ZEL P _))) with
        | false=>rw[M]at B;exact B.elim
        | true=>
          rw[M]at B;have V:cd.mem=true:=by simp only[Xf,ZAz]at M;exact M.1.1.1
          simp only[XL]at B⊢;first
               | (obtain⟨a,l,c,h',S⟩:=ZNH B H;exact⟨_,_,S⟩)
               | exact ZL5 B H λa l c h' Q S=>⟨Q,S⟩
               | exact ZMj V B O o
       .exact B.elim
      .exact B.elim
     .exact B.elim
    .rename_i D hl;cases D
    .rename_i D hl;cases D
    .exact B.elim
theorem ZXz(o:Oper)(ρ:Operand->LV)(k:Obj->(Nat->Value)->Prop)(B:opA P o ρ k):∃ ob f,∀ D,opA P o ρ D↔D ob f:=by
 obtain⟨dst,op,type,pos,after,guard⟩:=o;cases op;case alloc e=>
  simp only[opA]at B⊢
  split at B
  .exact ⟨_,_,λD=>Iff.rfl⟩
  .exact B.elim
 case box e x=>
  simp only[opA]at B⊢
  split at B
  .exact ⟨_,_,λD=>Iff.rfl⟩
  .exact B.elim
 case buildSlice t n ps=>
  simp only[opA]at B⊢
  split at B
  ·rename_i e l O hl
   split at B
   ·rename_i m z S U
    cases E:Nat.ble (n*m) 16777216 with
    | false=>rw[E]at B;exact B.elim
    | true=>
      rw[E]at B;simp only[XL]at B⊢;split at B
      .exact ⟨_,_,λD=>Iff.rfl⟩
      .exact B.elim
   .exact B.elim
  .exact B.elim
 case makeSlice t l c=>
  simp only[opA]at B⊢
  split at B
  ·rename_i e V n km m O hl Q
   split at B
   ·cases E:ZEL P e with
    | false=>rw[E]at B;exact B.elim
    | true=>
      rw[E]at B;simp only[XL]at B⊢;obtain⟨H,I,h2,M,B⟩:=B;exact⟨_,_,λD=>⟨λh=>h.2.2.2.2,λh=>⟨H,I,h2,M,h⟩⟩⟩
   .exact B.elim
  .exact B.elim
 case makeChan t n=>
  simp only[opA]at B⊢
  split at B
  .split at B
   .obtain ⟨H,I,h2,B⟩:=B
    exact⟨_,_,λD=>⟨λh=>h.2.2.2,λh=>⟨H,I,h2,h⟩⟩⟩
   .exact B.elim
  .exact B.elim
 case makeMap t r=>
  simp only[opA]at B⊢
  split at B
  .exact ⟨_,_,λD=>Iff.rfl⟩
  .exact B.elim
 all_goals exact B.elim
def ZVu(A:Ann)(P:Program)(x y:Oper):Bool:=
 (x.guard.isNone&&y.guard.isNone)&&match cls A P x,cls A P y with
   | .a,.a=>true
   | .w,.a=>ZUS x
   | _,_=>false
variable {K:Env->Hp->Prop}
theorem ZDb(B:o.guard=none):ZAi A P N ops o env h K↔(ZFx N o=true/\ZHT A P o env h K):=by
 unfold ZAi;rw[B];cases ZFx N o with
 | false=>simp
 | true=>simp
theorem ZMs(E:o.guard=none)(D:cls A P o=.a)(M:ZAi A P N ops o env h K):∃ (ob:Obj) (f:Nat->Value),∀ (env2:Env) (h2:Hp) (K':Env->Hp->Prop),ZBA A ops o env env2->
 (ZAi A P N ops o env2 h2 K'↔∀ b,h2 b=none->K' (put A env2 o.dst (.val (f b))) (h2.upd b ob)):=by
 obtain⟨I,h2⟩:=(ZDb E).1 M;unfold ZHT at h2;rw[D]at h2;dsimp only at h2;obtain⟨ob,f,B⟩:=ZXz _ _ _ h2;refine⟨ob,f,λenv2 h2 K' H=>?_⟩;rw[ZDb E];unfold ZHT;rw[D];dsimp only;rw[<-ZLK H.1,B];exact⟨λh=>h.2,λh=>⟨I,h⟩⟩
theorem ZbZ(Y:A.good)(D:ZVu A P x y=true)(E:ZFw A ops x y=true)(hf:h.fin)(M:ZAi A P N ops x env h λe1 W=>ZAi A P N ops y e1 W K):ZAi A P N ops y env h λe1 W=>ZAi A P N ops x e1 W K:=by
 unfold ZVu at D;simp only[Xf,YG]at D;obtain⟨⟨gx,gy⟩,D⟩:=D;split at D
 .rename_i Z hy;obtain⟨ox,fx,ix⟩:=ZMs gx Z M;rw[ix env h _ (ZBA.refl x env)]at M;obtain⟨b0,hb0⟩:=Hp.fin_fresh hf;obtain⟨oy,fy,V⟩:=ZMs gy hy (M b0 hb0);have B:∀ u,ZBA A ops y (put A env x.dst u) env:=λu=>ZDm Y E (.inl rfl) u;have H:∀ u v,ZBA A ops y (put A env x.dst u) (put A env x.dst v):=λu v=>⟨λz U=>((B u).1 z U).trans ((B v).1 z U).symm,λs w S=>((B u).2 s w S).trans ((B v).2 s w S).symm⟩
  rw[V env h _ (B _)];intro b hb;have I:ZBA A ops x env (put A env y.dst (.val (fy b))):=(ZDx Y E (.inl rfl) _).symm;rw[ix _ _ _ I];intro c hc;obtain⟨O,hcn⟩:=Hp.upd_none hc;have:=(V _ _ _ (H _ _)).1 (M c hcn) b (by rw[Hp.upd_ne (Ne.symm O)];exact hb);rw[ZFv E (.inl rfl) (.inl rfl),Hp.upd_upd O]at this;exact this
 .rename_i Z hy;obtain⟨hd,Q⟩:=(ZDb gx).1 M;unfold ZHT at Q;rw[Z]at Q;dsimp only at Q;have tm:=ZOJ (A:=A) (P:=P) D (look A env) h;obtain⟨e0,h0,hy0⟩:=tm.wit _ Q hf;obtain⟨oy,fy,V⟩:=ZMs gy hy hy0;have B:∀ u,ZBA A ops y (put A env x.dst u) env:=λu=>ZDm Y E (.inl rfl) u;have H:∀ u v,ZBA A ops y (put A env x.dst u) (put A env x.dst v):=λu v=>⟨λz U=>((B u).1 z U).trans ((B v).1 z U).symm,λs w S=>((B u).2 s w S).trans ((B v).2 s w S).symm⟩
  rw[V env h _ (B _)];intro b hb;have I:ZBA A ops x env (put A env y.dst (.val (fy b))):=(ZDx Y E (.inl rfl) _).symm;rw[ZDb gx];refine⟨hd,?_⟩;unfold ZHT;rw[Z];dsimp only;rw[<-ZLx I.1];refine ZOd _ _ _ _ _ ?_ (tm.upd _ Q b oy hb);rintro e h2 ⟨W,rfl,hb1,hyy⟩;have:=(V _ _ _ (H _ _)).1 hyy b hb1;rw[ZFv E (.inl rfl) (.inl rfl)]at this;exact this
 .cases D
theorem ZHd(E:h.fin)(Q:cls A P o=.w->o.guard=none/\ZUS o=true)(H:ZAi A P N ops o env h K):ZAi A P N ops o env h λe h'=>h'.fin/\K e h':=by
 by_cases M:cls A P o=.w
 .obtain ⟨S,U⟩:=Q M;rw[ZDb S]at H⊢;refine⟨H.1,?_⟩;have I:=H.2;unfold ZHT at I⊢;rw[M]at I⊢;exact(ZOJ (A:=A) (P:=P) U (look A env) h).fin _ I E
 ·refine ZC7 H (ZBA.refl o env) λd _ e h' B O=>⟨?_,O⟩
  cases D:cls A P o with
  | p=>rw[D]at B;simp only[ZDy]at B;rw[B];exact E
  | c=>rw[D]at B;simp only[ZDy]at B;rw[B];exact E
  | r=>rw[D]at B;simp only[ZDy]at B;rw[B];exact E
  | a=>
    rw[D]at B;rcases B with rfl|⟨b,ob,_,rfl⟩
    .exact E
    .exact Hp.fin_upd E b ob
  | w=>exact absurd D M
inductive Dep (ops:Array Oper):Nat->Nat->Prop
 | edge {j:Nat} {o:Oper} {e:Edge} (ho:ops[j]?=some o) (he:e∈o.after) (hb:Region.binds .any e=true):Dep ops e.on j
 | trans {i k j:Nat} (h1:Dep ops i k) (h2:Dep ops k j):Dep ops i j
def ZNL(acc:List Nat):List Edge->Nat
 | []=>0
 | e::l=>bif Region.binds .any e then (2 ^ e.on ||| (acc.getD e.on 0 ||| ZNL acc l)) else ZNL acc l
def Zb7:List Oper->List Nat->List Nat
 | [],acc=>acc
 | o::l,acc=>Zb7 l (acc++[ZNL acc o.after.toList])
theorem ZMe(h:(2 ^ i).testBit j=true):i=j:=by rw[Nat.testBit_two_pow]at h;simpa using h
theorem ZRp{acc:List Nat}(B:∀ j i,(acc.getD j 0).testBit i=true->Dep ops i j)(H:ops[n]?=some o):
 ∀ l:List Edge,(∀ e∈l,e∈o.after)->∀ i,(ZNL acc l).testBit i=true->Dep ops i n:=by
 intro l;induction l with
 | nil=>intro _ i hi;simp[ZNL]at hi
 | cons e l I=>
   intro hl i hi;unfold ZNL at hi;cases D:Region.binds .any e with
   | false=>rw[D]at hi;exact I (λx E=>hl x (Xq _ E)) i hi
   | true=>
     rw[D]at hi;simp only[XL,Wu,Wf]at hi;rcases hi with h|h|h
     .rw [<-ZMe h];exact .edge H (hl e (by simp)) D
     .exact .trans (B _ _ h) (.edge H (hl e (by simp)) D)
     .exact I (λx E=>hl x (Xq _ E)) i h
theorem ZUr:∀ (l:List Oper) (acc:List Nat),(∀ k o,l[k]?=some o->ops[acc.length+k]?=some o)->(∀ j i,(acc.getD j 0).testBit i=true->Dep ops i j)->
 ∀ j i,((Zb7 l acc).getD j 0).testBit i=true->Dep ops i j:=by
 intro l;induction l with
 | nil=>intro acc _ h;exact h
 | cons o l H=>
   intro acc hl h;refine H (acc++[ZNL acc o.after.toList]) ?_ ?_
   .intro k o' E;have:=hl (k+1) o' (by simpa using E);simp only[Xg,XI,Yd,Vp];rw[show acc.length+1+k=acc.length+(k+1) by omega];exact this
   .intro j i hi;by_cases B:j<acc.length
    .rw [Yb,XR B,<-Yb]at hi;exact h j i hi
    .by_cases h2:j=acc.length
     .subst h2;simp at hi;exact ZRp (n:=acc.length) (o:=o) h (by simpa using hl 0 o rfl) o.after.toList (λe D=>by simpa using D) i (by simpa using hi)
     .rw [Yb,XP (by simp;omega)]at hi;simp at hi
abbrev Seq:=List (Nat×List Nat)
def Zbl(A:Ann)(ops:Array Oper)(x:Oper):Bool:=(ZA1 A x).all λd=>!(ZDa A ops x).contains d
def isR(cl:Cls):Bool:=match cl with|.r=>true|_=>false
def ZPe(A:Ann)(P:Program)(ops:Array Oper)(i:Nat)(ki:List Nat)(j:Nat)(ks:List Nat):Bool:=
 match ops[i]?,ops[j]? with
 | some x,some y=>ki.isEmpty&&(ZFw A ops x y&&(ZTP (cls A P x) (cls A P y)||((isR (cls A P x)&&(ks.contains i&&Zbl A ops x))||(ks.isEmpty&&ZVu A P x y))))
 | _,_=>false
def ZM4(A:Ann)(ops:Array Oper)(i k:Nat):Bool:=
 match ops[i]?,ops[k]? with
 | some x,some z=>(ZA1 A x).all λd=>!(ZDa A ops z).contains d&&(ZA1 A z).all λe=>ZBR A d e
 | _,_=>false
def Zbm(bef:List Nat)(i j:Nat):Bool:=(bef.getD j 0).testBit i
theorem Dep.lt(h:Dep ops i j):j<ops.size:=by
 induction h with
 | edge B _ _=>exact(Yc.1 B).1
 | trans _ _ _ D=>exact D
def asB(asm:List (Nat×Nat))(i j:Nat):Bool:=asm.any λp=>Nat.beq p.1 i&&Nat.beq p.2 j
def asD(asm:List (Nat×Nat))(bef:List Nat)(i j:Nat):Bool:=asm.any λp=>Nat.beq p.2 j&&Zbm bef i p.1
def AsO(ops:Array Oper)(asm:List (Nat×Nat))(i j:Nat):Prop:=asB asm i j=true\/∃ k,Dep ops i k/\asB asm k j=true
theorem ZWU(B:∀ j i,(bef.getD j 0).testBit i=true->Dep ops i j)(h:asB asm i j||asD asm bef i j):AsO ops asm i j:=by
 rw[Wf]at h;rcases h with h|h
 .exact .inl h
 .unfold asD at h;rw[WC]at h;obtain⟨p,D,h⟩:=h;rw[Xf]at h;refine .inr ⟨p.1,B _ _ h.2,?_⟩;unfold asB;rw[WC];exact⟨p,D,by rw[h.1];simp⟩
def ZN1(A:Ann)(P:Program)(ops:Array Oper)(asm:List (Nat×Nat))(bef:List Nat)(j:Nat)(ks:List Nat):Seq->Bool
 | []=>true
 | (i,ki)::m=>(Zbm bef i j||(ZPe A P ops i ki j ks||(asB asm i j||asD asm bef i j)))&&((!ks.contains i||m.all λq=>ZM4 A ops q.1 i||Zbm bef q.1 j)&&ZN1 A P ops asm bef j ks m)
def ZPG(A:Ann)(P:Program)(ops:Array Oper)(asm:List (Nat×Nat))(bef:List Nat):Seq->Seq->Bool
 | _,[]=>true
 | pre,(j,ks)::l=>(match ops[j]? with
    | some o=>o.after.toList.all λe=>!Region.binds .any e||pre.any λq=>Nat.beq q.1 e.on
    | none=>false)&&(!(pre.any λq=>Nat.beq q.1 j)&&(ZN1 A P ops asm bef j ks pre&&ZPG A P ops asm bef (pre++[(j,ks)]) l))
def ZHO(A:Ann)(P:Program)(ops:Array Oper)(asm:List (Nat×Nat))(seq:Seq):Bool:=
 Nat.beq seq.length ops.size&&ZPG A P ops asm (Zb7 ops.toList []) [] seq
def ZHv(A:Ann)(P:Program)(ops:Array Oper)(seq:Seq):Bool:=ZHO A P ops [] seq
structure ZZS (A:Ann) (P:Program) (ops:Array Oper) (asm:List (Nat×Nat)) (L:Seq):Prop where
 nd:(L.map Prod.fst).Nodup
 pair2:∀ p q,List.Sublist [p,q] L->Dep ops p.1 q.1\/(ZPe A P ops p.1 p.2 q.1 q.2=true\/AsO ops asm p.1 q.1)
 pair3:∀ p q r,List.Sublist [p,q,r] L->p.1∈r.2->ZM4 A ops q.1 p.1=true\/Dep ops q.1 r.1
theorem ZNJ(E:∀ j i,(bef.getD j 0).testBit i=true->Dep ops i j):∀ {m:Seq},ZN1 A P ops asm bef j ks m=true->
 (∀ p∈m,Dep ops p.1 j\/(ZPe A P ops p.1 p.2 j ks=true\/AsO ops asm p.1 j))/\(∀ p q,List.Sublist [p,q] m->p.1∈ks->ZM4 A ops q.1 p.1=true\/Dep ops q.1 j):=by
 intro m;induction m with
 | nil=>intro _;exact⟨λp B=>(by cases B),λp q h=>(by cases h)⟩
 | cons x m U=>
   intro h;obtain⟨i,V⟩:=x;simp only[ZN1,Xf]at h;obtain⟨H,h2,Q⟩:=h;obtain⟨M,O⟩:=U Q;constructor
   .intro p B;rcases Xm.1 B with rfl|B
    .rw [Wf,Wf]at H;exact H.imp (E _ _) λh=>h.imp id (ZWU E)
    .exact M p B
   ·intro p q D I;cases D with
    | cons _ D=>exact O p q D I
    | cons_cons _ D=>
      have S:q∈m:=WT.1 D;simp only[Wf,Ym,VZ,Wc,Wn]at h2;rcases h2 with h2|h2
      .exact absurd I h2
      .exact (h2 q S).imp id (E _ _)
theorem ZMr(hb:∀ j i,(bef.getD j 0).testBit i=true->Dep ops i j):∀ (l pre:Seq),ZPG A P ops asm bef pre l=true->ZZS A P ops asm pre->
 (∀ q∈pre,q.1<ops.size)->(∀ q∈pre,∀ o,ops[q.1]?=some o->∀ e∈o.after,Region.binds .any e=true->∃ p,p.1=e.on/\List.Sublist [p,q] pre)->
 ZZS A P ops asm (pre++l)/\(∀ q∈pre++l,q.1<ops.size)/\(∀ q∈pre++l,∀ o,ops[q.1]?=some o->∀ e∈o.after,Region.binds .any e=true->∃ p,p.1=e.on/\List.Sublist [p,q] (pre++l)):=by
 intro l;induction l with
 | nil=>intro pre _ Q h2 Y;rw[Wl];exact⟨Q,h2,Y⟩
 | cons y l ih=>
   intro pre h Q h2 Y;obtain⟨j,ks⟩:=y;simp only[ZPG,Xf]at h;obtain⟨S,hn,hp,hl⟩:=h;cases W:ops[j]? with
   | none=>rw[W]at S;cases S
   | some o=>
     rw[W]at S;simp only[Wn,Wf,Ym,WC,ZFc]at S;obtain⟨p1,p2⟩:=ZNJ (A:=A) (P:=P) hb hp;have V:∀ q∈pre,q.1≠j:=by intro q B e;have:pre.any (λq=>Nat.beq q.1 j)=true:=WC.2 ⟨q,B,ZFc.2 e⟩;rw[this]at hn;cases hn
     have Z:j<ops.size:=(Yc.1 W).1;have:=ih (pre++[(j,ks)]) hl ⟨?_,?_,?_⟩ ?_ ?_
     .rw [Xu]at this;exact this
     .rw [Wo,VD];refine⟨Q.nd,by simp,?_⟩;intro a H b D e;simp only[XS,YB,Xl]at D;obtain⟨q,B,rfl⟩:=Wa.1 H;exact V q B (e.trans D)
     ·intro p q hs;obtain⟨a,b,e,H,D⟩:=List.sublist_append_iff.1 hs;match a,e with
      | [],e=>simp at e;subst e;have:=D.length_le;simp at this
      | [x],e=>
        simp at e;obtain⟨rfl,rfl⟩:=e;have B:=WT.1 D;simp only[Xl]at B;subst B;exact p1 p (WT.1 H)
      | [x,y],e=>simp at e;obtain⟨rfl,rfl,_⟩:=e;exact Q.pair2 _ _ H
      | x::y::z::a,e=>simp at e
     ·intro p q r hs hk;obtain⟨a,b,e,H,D⟩:=List.sublist_append_iff.1 hs;match a,e with
      | [],e=>simp at e;subst e;have:=D.length_le;simp at this
      | [x],e=>simp at e;obtain⟨rfl,rfl⟩:=e;have:=D.length_le;simp at this
      | [x,y],e=>
        simp at e;obtain⟨rfl,rfl,rfl⟩:=e;have B:=WT.1 D;simp only[Xl]at B;subst B;exact p2 _ _ H hk
      | [x,y,z],e=>simp at e;obtain⟨rfl,rfl,rfl,_⟩:=e;exact Q.pair3 _ _ _ H hk
      | x::y::z::u::a,e=>simp at e
     .intro q B;rcases Xx.1 B with B|B
      .exact h2 q B
      .simp only[Xl]at B;subst B;exact Z
     .intro q B o' I e U E;rcases Xx.1 B with B|B
      .obtain ⟨p,M,O⟩:=Y q B o' I e U E;exact⟨p,M,O.trans (List.sublist_append_left _ _)⟩
      .simp only[Xl]at B;subst B;rw[W]at I;cases I;rcases S e (by simpa using U)with h|⟨p,M,O⟩
       .rw [E]at h;cases h
       .exact ⟨p,O,Uf (WT.2 M) (Yy [(j,ks)])⟩
theorem ZC4{l:Seq}:
 ZHy A P N ops ((i,ks)::l) env h K↔∃ o,ops[i]?=some o/\ZAi A P N ops o env h λe h=>ZCW A ops e h ks/\ZHy A P N ops l e h K:=by
 cases ks with
 | nil=>
   simp only[ZHy];cases D:ops[i]? with
   | none=>simp
   | some o=>
     simp only[XT,exists_eq_left',ZCW];exact⟨λB=>ZAI B λ_ _ h=>⟨trivial,h⟩,λB=>ZAI B λ_ _ h=>h.2⟩
 | cons k ks=>
   simp only[ZHy];cases D:ops[i]? with
   | none=>simp
   | some o=>simp
theorem ZFj{l:Seq}:∀ {env:Env} {h:Hp} {K K':Env->Hp->Prop},(∀ e h,K e h->K' e h)->ZHy A P N ops l env h K->ZHy A P N ops l env h K':=by
 induction l with
 | nil=>intro env h K K' D B;exact D _ _ B
 | cons y l I=>
   intro env h K K' D B;obtain⟨i,ks⟩:=y;rw[ZC4]at B⊢;obtain⟨o,H,B⟩:=B;exact⟨o,H,ZAI B λe h' ⟨E,h2⟩=>⟨E,I D h2⟩⟩
theorem ZM1:∀ {ks S:List Nat},(∀ i∈S,i∈ks)->ZCW A ops env h ks->ZCW A ops env h S:=by
 intro ks S E B
 have all:∀ {l:List Nat},ZCW A ops env h l->∀ i∈l,(match ops[i]? with|some o=>ZKW A o env h|none=>False):=by
  intro l;induction l with
  | nil=>intro _ i hi;cases hi
  | cons x l D=>
    intro B i hi;rcases Xm.1 hi with rfl|hi
    .exact B.1
    .exact D B.2 i hi
 induction S with
 | nil=>trivial
 | cons x S D=>exact⟨all B x (E x (by simp)),D λi hi=>E i (Xq _ hi)⟩
variable {u:EV}
theorem ZSa(Q:A.good){z:Oper}(S:∀ k,d=some k->k∉ZDa A ops z/\∀ e∈ZA1 A z,ZBR A k e=true)(B:ZKW A z (put A env d u) h):ZKW A z env h:=by
 cases d with
 | none=>exact B
 | some d=>
   obtain⟨O,h2⟩:=S d rfl;unfold ZKW at B⊢;split at B
   ·rename_i t x E;have hl:look A (put A env (some d) u) x=look A env x:=(ZDU (ops:=ops) Q O u).1 x (by rw[E];simp[Op.operands]);split at B
    .rename_i e D;have:=h2 e (by unfold ZA1;simp[D]);obtain⟨M,U,n3⟩:=ZDM.1 this;have I:put A env (some d) u e=env e:=by
      rcases ZBn (A:=A) (env:=env) u (Ne.symm M)with h|⟨_,_,H⟩
      .exact h
      .exact absurd H n3
     rw[I,hl]at B;exact B
    .exact B.elim
   ·rename_i V W x E;have hl:look A (put A env (some d) u) x=look A env x:=(ZDU (ops:=ops) Q O u).1 x (by rw[E];simp[Op.operands]);split at B
    .rename_i e D;have:=h2 e (by unfold ZA1;simp[D]);obtain⟨M,U,n3⟩:=ZDM.1 this;have I:put A env (some d) u e=env e:=by
      rcases ZBn (A:=A) (env:=env) u (Ne.symm M)with h|⟨_,_,H⟩
      .exact h
      .exact absurd H n3
     rw[I,hl]at B;exact B
    .exact B.elim
   .exact B.elim
theorem ZMc(M:A.good)(D:d=x.dst\/d=ZA9 A x):∀ {S:List Nat},
 (∀ k∈S,∀ z,ops[k]?=some z->∀ d∈ZA1 A x,d∉ZDa A ops z/\∀ e∈ZA1 A z,ZBR A d e=true)->ZCW A ops (put A env d u) h S->ZCW A ops env h S:=by
 intro S;induction S with
 | nil=>intro _ _;trivial
 | cons k S O=>
   intro I B;refine⟨?_,O (λk B=>I k (Xq _ B)) B.2⟩;have:=B.1;cases H:ops[k]? with
   | none=>rw[H]at this;exact this
   | some z=>
     rw[H]at this;refine ZSa (ops:=ops) M (λQ E=>?_) this;subst E;exact I k (by simp) z H Q (ZCr D)
variable {l2:Seq}
theorem ZaM(hA:A.good)(hy:ops[j]?=some y):∀ (l1:Seq) (S:List Nat) (env:Env) (h:Hp) (K:Env->Hp->Prop),h.fin->
 (∀ p∈l1,ZPe A P ops p.1 p.2 j ks=true)->(∀ k∈S,k∈ks)->(∀ k∈S,∀ p∈l1,ZM4 A ops p.1 k=true)->
 (∀ p q,List.Sublist [p,q] l1->p.1∈ks->ZM4 A ops q.1 p.1=true)->
 ZHy A P N ops (l1++(j,ks)::l2) env h K->ZAi A P N ops y env h λe h=>ZCW A ops e h S/\ZHy A P N ops (l1++l2) e h K:=by
 intro l1
 induction l1 with
 | nil=>
   intro S env h K _ _ hS _ _ B
   rw[XV,ZC4]at B
   obtain⟨o,ho,B⟩:=B
   rw[hy]at ho;cases ho
   exact ZAI B λe h ⟨U,h2⟩=>⟨ZM1 hS U,h2⟩
 | cons p l1 ih=>
   intro S env h K hf hp hS H W B
   obtain⟨i,ki⟩:=p
   rw[Va,ZC4]at B
   obtain⟨x,hx,B⟩:=B
   have D:=hp (i,ki) (by simp)
   unfold ZPe at D
   dsimp only at D
   rw[hx,hy]at D
   simp only[Xf,Wf,List.isEmpty_iff]at D
   obtain⟨hki,Z,ab⟩:=D
   subst hki
   have ac:∀ k∈S,∀ z,ops[k]?=some z->∀ d∈ZA1 A x,d∉ZDa A ops z/\∀ e∈ZA1 A z,ZBR A d e=true:=by
    intro k ac z hz d hd
    have:=H k ac (i,[]) (by simp)
    unfold ZM4 at this
    dsimp only at this
    rw[hx,hz]at this
    simp only[Wn,Xf,Ym,VZ,Wc]at this
    exact this d hd
   have rest:∀ q∈l1,ZPe A P ops q.1 q.2 j ks=true:=λq hq=>hp q (Xq _ hq)
   have Y:∀ p q,List.Sublist [p,q] l1->p.1∈ks->ZM4 A ops q.1 p.1=true:=λp q hs=>W p q (hs.cons _)
   -- the end: what is kept stays said ahead of x
   have fin:ZVC (cls A P x)=true->ZAi A P N ops y env h (λe2 h2=>ZAi A P N ops x e2 h2 λe3 W=>ZCW A ops e3 W S/\ZHy A P N ops (l1++l2) e3 W K)->
    ZAi A P N ops y env h λe h=>ZCW A ops e h S/\ZHy A P N ops ((i,[])::l1++l2) e h K:=by
    intro E B
    refine ZAI B λe2 h2 B=>⟨?_,?_⟩
    .obtain ⟨d,u,hd,⟨Q,_⟩,_⟩:=ZK1 E B
     exact ZMc hA hd ac Q
    .rw [Va,ZC4]
     exact⟨x,hx,ZAI B λe3 W ⟨_,B⟩=>⟨trivial,B⟩⟩
   rcases ab with hsw|⟨hr,O,ae⟩|⟨hks,hsw⟩
   .have E:ZVC (cls A P x)=true:=by
     cases V:cls A P x<;>rw[V]at hsw<;>first|rfl|cases hsw
    have M:=ZAI (ZHd hf (λhw=>by rw[hw]at E;cases E) B) λe1 U ⟨I,_,B⟩=>ih S e1 U K I rest hS (λk B q hq=>H k B q (Xq _ hq)) Y B
    exact fin E (swap hA hsw Z M)
   ·have V:cls A P x=.r:=by
     cases V:cls A P x<;>rw[V]at hr<;>first|rfl|cases hr
    have O:i∈ks:=by simpa using O
    have M:=ZAI (ZHd hf (λhw=>by rw[hw]at V;cases V) B) fun e1 U ⟨I,_,B⟩=>ih (i::S) e1 U K I rest
     (λk B=>by
       rcases Xm.1 B with rfl|B
       .exact O
       .exact hS k B)
     (λk B q hq=>by
       rcases Xm.1 B with rfl|B
       .exact W (k,[]) q (XC _ (WT.2 hq)) O
       .exact H k B q (Xq _ hq)) Y B
    refine fin (by rw[V];rfl) (ZVt hA V Z ae (ZAI M λe1 U B=>ZAI B λe2 h2 ⟨Q,B⟩=>?_))
    have hkx:=Q.1
    rw[hx]at hkx
    exact⟨hkx,Q.2,B⟩
   .skip
    have hS0:S=[]:=by
     cases S with
     | nil=>rfl
     | cons k S=>have:=hS k (by simp);rw[hks]at this;cases this
    subst hS0
    have hgw:cls A P x=.w->x.guard=none/\ZUS x=true:=by
     intro hw
     unfold ZVu at hsw
     rw[hw]at hsw
     simp only[Xf,YG]at hsw
     refine⟨hsw.1.1,?_⟩
     have h2:=hsw.2
     split at h2
     .rename_i e _;cases e
     .exact h2
     .cases h2
    have M:=ZAI (ZHd hf hgw B) λe1 U ⟨I,_,B⟩=>ih [] e1 U K I rest (λk B=>by cases B) (λk B=>by cases B) Y B
    refine ZAI (ZbZ hA hsw Z hf M) λe2 h2 B=>⟨trivial,?_⟩
    rw[Va,ZC4]
    exact⟨x,hx,ZAI B λe3 W ⟨_,B⟩=>⟨trivial,B⟩⟩
def ZFC(P:Program)(ops:Array Oper)(l:List Nat)(a:Act)(w:World)(K:Act->World->Prop):Prop:=
 ∀ (b:Frame) (k:List Item) (cs:List Frame),∃ a' w',K a' w'/\Steps P (lone (b.at a (.inRegion ops l::k)) cs w) (lone (b.at a' k) cs w')
variable {a:Act}{K:Act->World->Prop}
theorem ZGI(B:K a w):ZFC P ops [] a w K:=
 λ_ _ _=>⟨a,w,B,.one step_region_end⟩
theorem ZH3(h:ZUa P ops i a w λa' w'=>ZFC P ops l a' w' K):ZFC P ops (i::l) a w K:=by intro b k cs;obtain⟨a',w',E,s1⟩:=h b l k cs;obtain⟨B,D,h2,s2⟩:=E b k cs;exact⟨B,D,h2,s1.trans s2⟩
theorem ZUa.mono{K':Act->World->Prop}(D:∀ a w,K a w->K' a w)(h:ZUa P ops i a w K):ZUa P ops i a w K':=by intro b rest k cs;obtain⟨a',w',B,s1⟩:=h b rest k cs;exact⟨a',w',D _ _ B,s1⟩
theorem ZMB(I:ZGz P A):∀ (l:Seq) {bx:Nat->Nat} {env:Env} {a:Act} {h:Hp} {w:World} {K:Env->Hp->Prop},
 Rel A N bx env a h fr w0 w->ZHy A P N ops l env h K->ZFC P ops (l.map Prod.fst) a w (St A N fr w0 K):=by
 intro l;induction l with
 | nil=>intro bx env a h w K R B;exact ZGI ⟨_,_,_,R,B⟩
 | cons y l O=>
   intro bx env a h w K R B;obtain⟨i,ks⟩:=y;rw[ZC4]at B;obtain⟨o,M,B⟩:=B;refine ZH3 ((ZEo I R M B).mono ?_);rintro a' w' ⟨H,E,h',R',_,D⟩;exact O R' D
variable {L:Seq}
theorem ZG6(D:(L.map Prod.fst).Nodup)(hi:i∈L.map Prod.fst):∃ l1 ks l2,L=l1++(i,ks)::l2/\L.filter (λp=>p.1 != i)=l1++l2:=by
 obtain⟨⟨j,ks⟩,hq,rfl⟩:=Wa.1 hi;obtain⟨l1,l2,rfl⟩:=List.append_of_mem hq;refine⟨l1,ks,l2,rfl,?_⟩;rw[Wo,XS,VD]at D;obtain⟨M,h2,I⟩:=D;rw[Vk]at h2;have E:l1.filter (λp=>p.1 != j)=l1:=Vv.2 λp B=>by have:=I p.1 (Wa.2 ⟨p,B,rfl⟩) j (by simp);simpa using this
 have H:l2.filter (λp=>p.1 != j)=l2:=Vv.2 λp B=>by
  have:p.1≠j:=by rintro e;exact h2.1 (Wa.2 ⟨p,B,e⟩)
  simpa using this
 rw[WE,Wh];simp[E,H]
def NF(l:List Nat)(x y:Nat):Prop:=l.find? (λz=>Nat.beq z x||Nat.beq z y)≠some y
theorem NF.head{x y:Nat}(h:NF (y::l) x y):False:=h (by
 rw[List.find?_cons];simp)
theorem NF.tail{x y:Nat}(h:NF (i::l) x y)(H:i≠x)(I:i≠y):NF l x y:=λe=>h (by
 rw[List.find?_cons];have:(Nat.beq i x||Nat.beq i y)=false:=by
  have D:Nat.beq i x=false:=by
   cases B:Nat.beq i x with
   | false=>rfl
   | true=>exact absurd (Wv B) H
  have E:Nat.beq i y=false:=by
   cases B:Nat.beq i y with
   | false=>rfl
   | true=>exact absurd (Wv B) I
  rw[D,E];rfl
 rw[this];exact e)
theorem ZRB(hP:ZGz P A):∀ (E t:Nat) (B:Array Bool) (D:Seq) {bx:Nat->Nat} {env:Env} {a:Act} {h:Hp} {w:World} {K:Env->Hp->Prop},
 Rel A N bx env a h fr w0 w->ZZS A P ops asm D->(∀ x y,asB asm x y=true->x∈D.map Prod.fst->y∈D.map Prod.fst->NF (Region.linearise.go .any ops E t B []) x y)->B.size=ops.size->D.length<=E->
 (∀ j,j∈D.map Prod.fst↔j<ops.size/\B.getD j true=false)->
 (∀ i j,Dep ops i j->B.getD j false=true->B.getD i false=true)->
 (∀ q∈D,∀ o,ops[q.1]?=some o->∀ e∈o.after,Region.binds .any e=true->B.getD e.on false=true\/∃ p,p.1=e.on/\List.Sublist [p,q] D)->
 ZHy A P N ops D env h K->ZFC P ops (Region.linearise.go .any ops E t B []) a w (St A N fr w0 K):=by
 intro E
 induction E with
 | zero=>
   intro t B D bx env a h w K R I hord U hlen H hcl hed hk
   have:D=[]:=WK (by omega)
   subst this
   simp only[Region.linearise.go,List.reverse_nil]
   exact ZGI ⟨_,_,_,R,hk⟩
 | succ E ih=>
   intro t B D bx env a h w K R I hord U hlen H hcl hed hk
   have hord2:=hord
   simp only[Region.linearise.go]at hord2
   simp only[Region.linearise.go]
   change ZFC P ops (match (Region.ready .any ops B)[t % (Region.ready .any ops B).length]? with
    | some i=>Region.linearise.go .any ops E (t / (Region.ready .any ops B).length) (B.setIfInBounds i true) [i]
    | none=>[].reverse) a w (St A N fr w0 K)
   cases hi:(Region.ready .any ops B)[t % (Region.ready .any ops B).length]? with
   | none=>
     have hnil:Region.ready .any ops B=[]:=by
      cases hr:Region.ready .any ops B with
      | nil=>rfl
      | cons x xs=>
        rw[hr]at hi
        have hlt:t % (x::xs).length<(x::xs).length:=VM _ (by simp)
        simp at hi
        simp at hlt
        omega
     have:D=[]:=by
      cases D with
      | nil=>rfl
      | cons q l=>
        exfalso
        obtain⟨O,h2⟩:=(H q.1).1 (by simp)
        have:q.1∈Region.ready .any ops B:=by
         rw[mem_ready]
         refine⟨h2,ops[q.1],by simp[O],λe he hb=>?_⟩
         rcases hed q (by simp) ops[q.1] (by simp[O]) e he hb with h|⟨p,Z,M⟩
         .exact h
         ·exfalso
          have hnd:=I.nd
          rw[XS,Vk]at hnd
          cases M with
          | cons _ M=>
            exact hnd.1 (Wa.2 ⟨q,M.subset (by simp),rfl⟩)
          | cons_cons _ M=>exact hnd.1 (Wa.2 ⟨q,M.subset (by simp),rfl⟩)
        rw[hnil]at this;cases this
     subst this
     exact ZGI ⟨_,_,_,R,hk⟩
   | some i=>
     simp only[]
     have hir:=Xn hi
     obtain⟨hun,o,ho,hall⟩:=mem_ready.1 hir
     have hilt:i<ops.size:=(Yc.1 ho).1
     have him:i∈D.map Prod.fst:=(H i).2 ⟨hilt,hun⟩
     obtain⟨l1,ks,l2,W,hfil⟩:=ZG6 I.nd him
     rw[linearise_go_acc,List.reverse_singleton,List.singleton_append]
     refine ZH3 ?_
     -- nothing ahead of i in the order must come up before it
     have V:∀ p,List.Sublist [p,(i,ks)] D->¬Dep ops p.1 i:=by
      intro p M hd
      have Z:p.1∈D.map Prod.fst:=Wa.2 ⟨p,M.subset (by simp),rfl⟩
      have hpu:=((H p.1).1 Z)
      have:B.getD p.1 false=true:=by
       clear M Z
       have key:∀ x y,Dep ops x y->y=i->B.getD x false=true:=by
        intro x y hd
        induction hd with
        | edge Q he hb=>
          rintro rfl
          rw[ho]at Q;cases Q
          exact hall _ he hb
        | trans O h2 ih1 ih2=>
          rintro rfl
          exact hcl _ _ O (ih2 rfl)
       exact key _ _ hd rfl
      have h3:=hpu.2
      simp only[Array.getD,U,hpu.1,dif_pos]at this h3
      rw[this]at h3;cases h3
     have Y:∀ p∈l1,List.Sublist [p,(i,ks)] D:=by
      intro p Z
      rw[W]
      exact Uf (WT.2 Z) (WT.2 (by simp))
     have S:∀ x y,asB asm x y=true->x∈D.map Prod.fst->y∈D.map Prod.fst->NF (i::Region.linearise.go .any ops E (t / (Region.ready .any ops B).length) (B.setIfInBounds i true) []) x y:=by
      intro x y O h2 h3
      have h4:=hord2 x y O h2 h3
      change NF (match (Region.ready .any ops B)[t % (Region.ready .any ops B).length]? with
       | some i=>Region.linearise.go .any ops E (t / (Region.ready .any ops B).length) (B.setIfInBounds i true) [i]
       | none=>[].reverse) x y at h4
      rw[hi]at h4
      dsimp only at h4
      rw[linearise_go_acc,List.reverse_singleton,List.singleton_append]at h4
      exact h4
     have hb:=ZaM (N:=N) hP.good (j:=i) (ks:=ks) ho (l2:=l2) l1 [] env h K (Hp.fin_le R.hle)
      (λp Z=>((I.pair2 p (i,ks) (Y p Z)).resolve_left (V p (Y p Z))).resolve_right λhas=>by
        have hpm:p.1∈D.map Prod.fst:=Wa.2 ⟨p,(Y p Z).subset (by simp),rfl⟩
        rcases has with has|⟨k,hd,has⟩
        .exact (S _ _ has hpm him).head
        ·have hku:B.getD k false=false:=by
             cases hlk:B.getD k false with
             | false=>rfl
             | true=>
               have O:=hcl _ _ hd hlk
               have h2:=(H p.1).1 hpm
               have h3:=h2.2
               simp only[Array.getD,U,h2.1,dif_pos]at O h3
               rw[O]at h3;cases h3
         have hks:=hd.lt
         have hkm:k∈D.map Prod.fst:=(H k).2 ⟨hks,by
             have h4:=hku
             simp only[Array.getD,U,hks,dif_pos]at h4⊢
             exact h4⟩
         exact(S _ _ has hkm him).head) (λk hk=>by cases hk) (λk hk=>by cases hk)
      (λp q M hk=>by
        have hs3:List.Sublist [p,q,(i,ks)] D:=by
         rw[W];exact Uf M (WT.2 (by simp))
        refine(I.pair3 p q (i,ks) hs3 hk).resolve_right (V q (Y q (M.subset (by simp)))))
      (by rw[<-W];exact hk)
     refine(ZEo hP R ho hb).mono ?_
     rintro a' w' ⟨bx',env',h',R',_,hk'⟩
     rw[<-hfil]at hk'
     have hsub:List.Sublist (D.filter λp=>p.1 != i) D:=YN
     refine ih _ _ (D.filter λp=>p.1 != i) R' ⟨?_,?_,?_⟩ (λx y O h2 h3=>?_) (by simpa using U) ?_ ?_ ?_ ?_ hk'
     .exact I.nd.sublist (hsub.map _)
     .exact λp q M=>I.pair2 p q (M.trans hsub)
     .exact λp q r M=>I.pair3 p q r (M.trans hsub)
     .obtain ⟨q2,hq2,rfl⟩:=Wa.1 h2
      obtain⟨q3,hq3,rfl⟩:=Wa.1 h3
      have m2:=Wk.1 hq2
      have m3:=Wk.1 hq3
      exact(S _ _ O (Wa.2 ⟨q2,m2.1,rfl⟩) (Wa.2 ⟨q3,m3.1,rfl⟩)).tail (λe=>by have:=m2.2;simp[e]at this) (λe=>by have:=m3.2;simp[e]at this)
     .rw [hfil]
      have:=congrArg List.length W
      simp at this⊢;omega
     ·intro j
      constructor
      .intro hj
       obtain⟨q,hq,rfl⟩:=Wa.1 hj
       obtain⟨hq1,hq2⟩:=Wk.1 hq
       have hne:q.1≠i:=by simpa using hq2
       have:=(H q.1).1 (Wa.2 ⟨q,hq1,rfl⟩)
       exact⟨this.1,by rw[getD_set_ne true (Ne.symm hne)];exact this.2⟩
      .rintro ⟨O,h2⟩
       have hne:j≠i:=by
        rintro rfl
        have hlt:j<B.size:=by rw[U];exact O
        simp[hlt]at h2
       rw[getD_set_ne true (Ne.symm hne)]at h2
       obtain⟨q,hq,rfl⟩:=Wa.1 ((H j).2 ⟨O,h2⟩)
       exact Wa.2 ⟨q,Wk.2 ⟨hq,by simpa using hne⟩,rfl⟩
     ·intro x y hd hy
      by_cases e:y=i
      ·subst e
       apply getD_set_true
       have key:∀ x z,Dep ops x z->z=y->B.getD x false=true:=by
        intro x z hd
        induction hd with
        | edge Q he hb=>
          rintro rfl
          rw[ho]at Q;cases Q
          exact hall _ he hb
        | trans O h2 ih1 ih2=>
          rintro rfl
          exact hcl _ _ O (ih2 rfl)
       exact key _ _ hd rfl
      .rw [getD_set_ne false (Ne.symm e)]at hy
       exact getD_set_true (hcl _ _ hd hy)
     ·intro q hq o' Q e he hb'
      obtain⟨hq1,hq2⟩:=Wk.1 hq
      rcases hed q hq1 o' Q e he hb' with h|⟨p,Z,M⟩
      .exact .inl (getD_set_true h)
      .by_cases hpi:p.1=i
       .left
        rw[<-Z,hpi]
        have hlt:i<B.size:=by rw[U];exact hilt
        simp[hlt]
       .right
        refine⟨p,Z,?_⟩
        have:=M.filter (λp=>p.1 != i)
        have hq2':(q.1 != i)=true:=hq2
        have hp2':(p.1 != i)=true:=by simpa using hpi
        rw[Wh,Xe hp2',Wh,Xe hq2']at this
        exact this
theorem ZSD:∀ (n:Nat) (l:List Nat),l.Nodup->(∀ x∈l,x<n)->l.length<=n:=by
 intro n;induction n with
 | zero=>
   intro l _ h;cases l with
   | nil=>simp
   | cons x l=>have:=h x (by simp);omega
 | succ n H=>
   intro l D h;by_cases E:n∈l
   .have:=H (l.erase n) (D.erase n) (λx B=>by
     have I:=h x (List.mem_of_mem_erase B);have h2:x≠n:=by rintro rfl;exact(List.Nodup.not_mem_erase D) B
     omega)
    rw[List.length_erase_of_mem E]at this;omega
   .have:=H l D (λx B=>by
     have I:=h x B;have h2:x≠n:=by rintro rfl;exact E B
     omega)
    omega
variable {K:Env->Hp->Prop}{seq:Seq}
theorem ZID(hP:ZGz P A)(Z:ZHO A P ops asm seq=true)(R:Rel A N bx env a h fr w0 w)(S:ZHy A P N ops seq env h K)(t:Nat)(M:∀ x y,asB asm x y=true->NF (Region.linearise .any ops t) x y):ZFC P ops (Region.linearise .any ops t) a w (St A N fr w0 K):=by
 simp only[ZHO,Xf,ZFc]at Z;obtain⟨ab,H⟩:=Z;have I:=ZUr (ops:=ops) ops.toList [] (λk o S=>by simpa using S) (λj i hi=>by simp at hi);obtain⟨Q,h2,Y⟩:=ZMr (A:=A) (P:=P) (ops:=ops) I seq [] H ⟨by simp,λp q V=>(by cases V),λp q r V=>(by cases V)⟩ (λq B=>by cases B) (λq B=>by cases B);simp only[XV]at Q h2 Y;have D:∀ j,j<ops.size->j∈seq.map Prod.fst:=by
  intro j E;apply VC;intro hn;have O:(j::seq.map Prod.fst).Nodup:=Vk.2 ⟨hn,Q.nd⟩;have:=ZSD ops.size (j::seq.map Prod.fst) O (λx W=>by
   rcases Xm.1 W with rfl|W
   .exact E
   .obtain ⟨q,B,rfl⟩:=Wa.1 W;exact h2 q B)
  simp at this;omega
 refine ZRB hP ops.size t _ seq R Q (λx y h _ _=>M x y h) (by simp) (by omega) ?_ ?_ ?_ S
 .intro j;constructor
  .intro E;obtain⟨q,B,rfl⟩:=Wa.1 E;have:=h2 q B;exact⟨this,by simp[this]⟩
  .rintro ⟨E,_⟩;exact D j E
 .intro i j _ E;exfalso;by_cases U:j<ops.size<;>simp[U]at E
 .intro q B o ho e he hb;exact .inr (Y q B o ho e he hb)
theorem ZPu(B:ZGz P A)(D:ZHv A P ops seq=true)(R:Rel A N bx env a h fr w0 w)(E:ZHy A P N ops seq env h K)(t:Nat):ZFC P ops (Region.linearise .any ops t) a w (St A N fr w0 K):=
 ZID B D R E t λx y h=>by cases h
inductive RT where
 | leaf (s:Seq)
 | node (x y:Nat) (a b:RT)
def ZW4(A:Ann)(P:Program)(N:Nat)(ops:Array Oper):RT->Env->Hp->(Env->Hp->Prop)->Prop
 | .leaf s,env,h,K=>ZHy A P N ops s env h K
 | .node _ _ a b,env,h,K=>ZW4 A P N ops a env h K/\ZW4 A P N ops b env h K
def ZG1(A:Ann)(P:Program)(ops:Array Oper):List (Nat×Nat)->RT->Bool
 | asm,.leaf s=>ZHO A P ops asm s
 | asm,.node x y a b=>!Nat.beq x y&&(ZG1 A P ops ((x,y)::asm) a&&ZG1 A P ops ((y,x)::asm) b)
theorem ZHq:∀ {B:RT} {env:Env} {h:Hp} {K K':Env->Hp->Prop},(∀ e h,K e h->K' e h)->ZW4 A P N ops B env h K->ZW4 A P N ops B env h K'
 | .leaf _,_,_,_,_,hK,hk=>ZFj hK hk
 | .node _ _ _ _,_,_,_,_,hK,hk=>⟨ZHq hK hk.1,ZHq hK hk.2⟩
theorem ZGP(I:ZGz P A){fr:Hp}{w0:World}{bx:Nat->Nat}{env:Env}{a:Act}{h:Hp}{w:World}{K:Env->Hp->Prop}(R:Rel A N bx env a h fr w0 w)(t:Nat):∀ (O:RT) (asm:List (Nat×Nat)),
 ZG1 A P ops asm O=true->(∀ x y,asB asm x y=true->NF (Region.linearise .any ops t) x y)->ZW4 A P N ops O env h K->ZFC P ops (Region.linearise .any ops t) a w (St A N fr w0 K)
 | .leaf s,asm,hc,hord,hk=>ZID I hc R hk t hord
 | .node x y l r,asm,hc,hord,hk=>by
   simp only[ZG1,Xf]at hc;obtain⟨H,Q,h2⟩:=hc;have H:x≠y:=by rintro rfl;simp at H
   by_cases e:(Region.linearise .any ops t).find? (λz=>Nat.beq z x||Nat.beq z y)=some y
   .refine ZGP I R t r _ h2 (λu v B=>?_) hk.2;simp only[asB,List.any_cons,Wf,Xf]at B;rcases B with ⟨D,E⟩|B
    .have D:y=u:=Wv D;have E:x=v:=Wv E;subst D;subst E;intro M;have S:(λz=>Nat.beq z y||Nat.beq z x)=λz=>Nat.beq z x||Nat.beq z y:=by funext z;rw[Bool.or_comm]
     rw[S,e]at M;exact H (YV M).symm
    .exact hord u v B
   .refine ZGP I R t l _ Q (λu v B=>?_) hk.1;simp only[asB,List.any_cons,Wf,Xf]at B;rcases B with ⟨D,E⟩|B
    .have D:x=u:=Wv D;have E:y=v:=Wv E;subst D;subst E;exact e
    .exact hord u v B
end Go.Eng
