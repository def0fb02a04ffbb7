/- Made by program: of our texts what this law needs (Eng.P Eng.Q Eng.QD Eng.R Eng.S Eng.U Eng.V Eng.W Eng.X Eng.Y Eng.Z Eng.AA Eng.AB Eng.AC Eng.AD Eng.JF). -/
import Derived.Test.YtkmniidiifpdgaaGreatP00
import Derived.ChangeArms
import Derived.ChangeSlices
import Derived.WideShapes
import Derived.OpenShut
import Derived.SizedLaws
import Derived.Below
import Derived.Shelf.SlSortCmp.NoneTotal
import Derived.JoinedOf
set_option linter.unusedVariables false
namespace Go.Eng
abbrev Xa:=@List.getElem?_eq_getElem
abbrev Xb:=@Int.natCast_nonneg
abbrev Xh:=@Nat.zero_le
abbrev Xj:=@decide_eq_false
abbrev Xo:=@List.take_length
abbrev Xs:=@List.getElem_mem
abbrev Xt:=@List.Perm.swap
abbrev Xz:=@List.sublist_cons_self
abbrev XA:=@Bool.eq_iff_iff
abbrev XB:=@decide_eq_true
abbrev XD:=@Int.toNat_natCast
abbrev XF:=@List.drop_append_of_le_length
abbrev XH:=@List.take_add_one
abbrev XM:=@List.getElem?_set_self
abbrev XN:=@List.length_drop
abbrev XO:=@List.take_append_drop
abbrev XQ:=@List.Perm.cons
abbrev XU:=@List.take_of_length_le
abbrev XW:=@List.not_mem_nil
abbrev XY:=@List.drop_length
abbrev XZ:=@List.drop_eq_getElem_cons
abbrev We:=@List.length_map
abbrev Wm:=@List.pairwise_cons
abbrev Wt:=@List.take_append_of_le_length
abbrev Wz:=@Nat.sub_self
abbrev WA:=@List.findIdx?_eq_some_iff_getElem
abbrev WD:=@Option.map_some
abbrev WG:=@Int.fdiv_eq_ediv_of_nonneg
abbrev WI:=@Bool.true_or
abbrev WL:=@List.findIdx?_eq_none_iff
abbrev WO:=@List.Perm.refl
abbrev WP:=@Bool.or_eq_false_iff
abbrev WQ:=@List.mem_cons_self
abbrev WX:=@List.foldl_append
abbrev WY:=@Option.bind_eq_some_iff
abbrev Ya:=@List.getElem?_of_mem
abbrev Yg:=@List.set_append_right
abbrev Yl:=@List.drop_drop
abbrev Yo:=@Nat.min_eq_left
abbrev Yr:=@Array.getElem?_eq_getElem
abbrev Yv:=@Nat.mul_comm
abbrev Yw:=@List.getElem?_take_of_lt
abbrev YD:=@List.set_cons_zero
abbrev YH:=@List.mem_take_iff_getElem
abbrev YI:=@List.pairwise_append
abbrev YJ:=@List.mem_of_mem_drop
abbrev YL:=@Option.bind_eq_bind
abbrev YQ:=@List.getElem?_cons_zero
abbrev YT:=@List.drop_eq_nil_of_le
abbrev YY:=@List.Pairwise.nil
abbrev Vb:=@Bool.or_true
abbrev Vc:=@List.pairwise_iff_getElem
abbrev Vi:=@Nat.add_assoc
abbrev Vj:=@Option.pure_def
abbrev Vo:=@Nat.eq_zero_or_pos
abbrev Vr:=@Array.getElem?_toList
abbrev Vy:=@Nat.mul_le_mul
abbrev VB:=@Array.getElem?_append_left
abbrev VG:=@List.pairwise_singleton
abbrev VY:=@List.drop_zero
abbrev Uc:=@List.take_set_of_le
abbrev Ue:=@List.drop_set_of_lt
abbrev Uj:=@List.set_eq_take_append_cons_drop
variable {cd rc:Cdc}{g f:FuncId}{h c fr c' h0:Hp}{t e:TypeId}{l rest:List Nat}{args cs vs vs':List Value}{R:Value->Prop}{S S':Value->Env->Hp->Prop}{P:Program}{o:Oper}{A:Ann}{N bytes cap n m m' b i k cap' z zz dlen cap0 j:Nat}{env env':Env}{K K':Env->Hp->Prop}{a src:Option Addr}{ops:Array Oper}{d:Deferred}{w0 w w' w1 W:World}{bx:Nat->Nat}{Q:Exit->Act->World->Prop}{ms:Array (String×TypeId)}{v tv:Value}{fn gn:Func}{F B p:Prop}{gb:Code}{first captured:Array Value}{u:FrameMode}{info:TypeId->Option TypeInfo}{l':List Hp}{fz:Nat×Nat}{α β:Type}{L:List FuncId}{ws:List (List Nat)}
abbrev JS:=List (Nat×Bool×Cdc)
def JT:JS->Type
 | []=>Unit
 | [x]=>x.2.2.T
 | x::y::l=>x.2.2.T×JT (y::l)
def ZcS(c:Cdc)(cs:List Value):Option c.T:=
 match c.agg with
 | true=>c.dec (.agg cs.toArray)
 | false=>match cs with
   | [v]=>bif ZGZ v then c.dec v else none
   | _=>none
def ZbN(b:Bool)(c:Cdc):EV->Option c.T
 | .val v=>match b with
   | true=>none
   | false=>c.dec v
 | .box cs=>match b with
   | true=>ZcS c cs
   | false=>none
 | _=>none
def ZX2:(js:JS)->Env->Option (JT js)
 | [],_=>some ()
 | [(s,b,c)],env=>ZbN b c (env s)
 | (s,b,c)::y::l,env=>match ZbN b c (env s) with
   | some x=>match ZX2 (y::l) env with
     | some r=>some (x,r)
     | none=>none
   | none=>none
def ev1(b:Bool)(c:Cdc)(x:c.T):EV:=
 match b with
 | true=>.box (c.enc x).cells.toList
 | false=>.val (c.enc x)
def ZGW:(js:JS)->JT js->Nat->Option EV
 | [],_,_=>none
 | [(s,b,c)],x,k=>bif Nat.beq k s then some (ev1 b c x) else none
 | (s,b,c)::y::l,x,k=>bif Nat.beq k s then some (ev1 b c x.1) else ZGW (y::l) x.2 k
def envJ(A:Ann)(js:JS)(m:Nat)(env:Env)(x:JT js):Env:=λs=>
 match ZGW js x s with
 | some e=>e
 | none=>bif m.testBit s||(A.refOf s).isSome then .unk else env s
def ZT{T:Type}(J:T->Hp->Prop)(B:(T->Hp->Prop)->Prop):Prop:=B J
def Ze{T:Type}(x0:T)(h0:Hp)(B:(T->Hp->Prop)->T->Hp->Prop):Prop:=
 ∃ (I:T->Hp->Prop) (μ:T->Hp->Nat),I x0 h0/\∀ x h,I x h->B (λx' h'=>I x' h'/\μ x' h'<μ x h) x h
inductive An:Type 1 where
 | leaf
 | reg (seq:Seq)
 | regX
 | regT (t:RT)
 | seq (a b:An)
 | join (js:JS) (m:Nat) (a b:An)
 | cond (a b:An)
 | block (a:An)
 | blockJ (js:JS) (m:Nat) (a:An)
 | loop (js:JS) (m:Nat) (a:An)
structure Ct where
 n:Env->Hp->Prop
 x:Nat->Env->Hp->Prop
 r:Option Value->Env->Hp->Prop
def toJ(js:JS)(e:Env)(h:Hp)(J:JT js->Hp->Prop):Prop:=
 match ZX2 js e with
 | some x=>J x h
 | none=>False
def ZQw:Option Nat->Nat
 | some d=>2 ^ d
 | none=>0
def ZNZ(A:Ann):List Oper->Nat
 | []=>0
 | o::l=>ZQw o.dst ||| (ZQw (ZA9 A o) ||| ZNZ A l)
def ZGv(a b:Nat):Bool:=Nat.beq (a ||| b) b
def ZCB:JS->Nat
 | []=>0
 | x::l=>2 ^ x.1 ||| ZCB l
def ZBk(A:Ann):Code->An->Nat
 | .region _ ops _,_=>ZNZ A ops.toList
 | .seq a b,.seq a' b'=>ZBk A a a' ||| ZBk A b b'
 | .seq _ b,.join _ m _ b'=>m ||| ZBk A b b'
 | .cond _ x y,.cond x' y'=>ZBk A x x' ||| ZBk A y y'
 | .block _ c,.block a=>ZBk A c a
 | .block _ _,.blockJ _ m _=>m
 | .loop _,.loop _ m _=>m
 | _,_=>0
def ZCi(n:Nat):Seq:=(List.range n).map λi=>(i,[])
def isX(A:Ann)(P:Program)(o:Oper):Bool:=
 match o.guard with
 | some _=>false
 | none=>match o.op with
   | .panic _=>true
   | .typeAssert _ _ _ true=>true
   | .binOp .neq _ _ (.const .nilIface) _=>true
   | .call c=>match c.callee,c.argTypes[1]? with
     | .value (.func g),_=>A.pan g
     | .builtin .cap,_=>true
     | .builtin .append,some u=>(match P.underlying u with|some (.int _)=>true|_=>false)
     | _,_=>false
   | _=>false
def Za5(A:Ann)(P:Program)(o:Oper)(env:Env):Option Value:=
 match o.op with
 | .typeAssert x _ t true=>match look A env x,P.underlying t with
   | .v (.iface t' v),some (.struct _)=>bif Nat.beq t' t then some (.tuple #[v,.bool true]) else (match ZDh P t with
     | some z=>some (.tuple #[z,.bool false])
     | none=>none)
   | _,_=>none
 | .binOp .neq t x (.const .nilIface) _=>match look A env x,P.underlying t with
   | .v (.iface _ _),some (.interface _)=>some (.bool true)
   | .v .nilIface,some (.interface _)=>some (.bool false)
   | _,_=>none
 | .call c=>match c.callee,c.argTypes[0]?,ZIh (look A env) c.args.toList with
   | .builtin .cap,some t,some [.slice _ _ n]=>(match P.underlying t with
     | some (.slice _)=>some (.int .i64 (n:Int))
     | _=>none)
   | _,_,_=>none
 | _=>none
def ZXy(A:Ann)(P:Program)(N:Nat)(o:Oper)(env:Env)(h:Hp)(K:Env->Hp->Prop)(S:Value->Env->Hp->Prop):Prop:=
 match Za5 A P o env with
 | some v=>bif ZFx N o then K (put A env o.dst (.val v)) h else False
 | none=>match o.op with
   | .panic x=>match look A env x with
     | .v (.iface t v)=>S (.iface t v) env h
     | _=>False
   | .call c=>bif ZFx N o then (match c.callee with
     | .value (.func g)=>match ZIh (look A env) c.args.toList,A.res g,P.funcs[g]? with
       | some l,some r,some fn=>match fn.body with
         | some _=>ZE5 P g l r h (λy h'=>K (put A env o.dst (.val (r.enc y))) h') (λv h'=>S v env h')
         | none=>False
       | _,_,_=>False
     | .builtin .append=>match c.argTypes[0]?,c.argTypes[1]?,ZIh (look A env) c.args.toList with
       | some t,some u,some [.slice a len cap,.int _ n]=>match P.underlying t,P.underlying u with
         | some (.slice e),some (.int _)=>match A.cdc e,ZDh P e with
           | some cd,some zv=>bif ZAz P cd e&&(Nat.ble 1 (ZA8 P e)&&Nat.ble (ZA8 P e) 1048576) then
               (match cd.dec zv with
               | some z=>ZHV cd z e (ZA8 P e) a len cap n h λa' l' c' h'=>K (put A env o.dst (.val (.slice a' l' c'))) h'
               | none=>False)
             else False
           | _,_=>False
         | _,_=>False
       | _,_,_=>False
     | _=>False) else False
   | _=>False
def ZLd(A:Ann)(P:Program)(N:Nat)(ops:Array Oper)(o:Oper)(env:Env)(h:Hp)(K:Env->Hp->Prop)(S:Value->Env->Hp->Prop):Prop:=
 bif isX A P o then ZXy A P N o env h K S else ZAi A P N ops o env h K
def ZQt(A:Ann)(P:Program)(N:Nat)(ops:Array Oper):List Nat->Env->Hp->(Env->Hp->Prop)->(Value->Env->Hp->Prop)->Prop
 | [],env,h,K,_=>K env h
 | i::l,env,h,K,S=>match ops[i]? with
   | some o=>ZLd A P N ops o env h (λe h=>ZQt A P N ops l e h K S) S
   | none=>False
def ZAP(A:Ann)(P:Program)(N:Nat):Code->An->Env->Hp->Ct->Prop
 | .skip,_,env,h,C=>C.n env h
 | .label _,_,env,h,C=>C.n env h
 | .region _ ops draw,.reg seq,env,h,C=>match draw with
   | true=>bif ZHv A P ops seq then ZHy A P N ops seq env h C.n else False
   | false=>ZHy A P N ops (ZCi ops.size) env h C.n
 | .region _ ops draw,.regT t,env,h,C=>match draw with
   | true=>bif ZG1 A P ops [] t then ZW4 A P N ops t env h C.n else False
   | false=>False
 | .region _ ops draw,.regX,env,h,C=>match draw with
   | true=>False
   | false=>ZQt A P N ops (List.range ops.size) env h C.n λv=>C.r (some v)
 | .seq a b,.seq a' b',env,h,C=>ZAP A P N a a' env h {C with n:=λe h=>ZAP A P N b b' e h C}
 | .seq a b,.join js m a' b',env,h,C=>bif ZGv (ZBk A a a') m&&ZGv (ZCB js) m then
    ZT (λx h=>ZAP A P N b b' (envJ A js m env x) h C) λJ=>ZAP A P N a a' env h {C with n:=λe h=>toJ js e h J}
   else False
 | .cond c x y,.cond x' y',env,h,C=>match look A env c with
   | .v (.bool b)=>ZB b (ZAP A P N x x' env h C) (ZAP A P N y y' env h C)
   | _=>False
 | .block id c,.block a,env,h,C=>ZAP A P N c a env h {C with x:=λk=>bif Nat.beq k id then C.n else C.x k}
 | .block id c,.blockJ js m a,env,h,C=>bif ZGv (ZBk A c a) m&&ZGv (ZCB js) m then
    ZT (λx h=>C.n (envJ A js m env x) h) λJ=>ZAP A P N c a env h {n:=λe h=>toJ js e h J,x:=λk=>bif Nat.beq k id then (λe h=>toJ js e h J) else C.x k,r:=C.r}
   else False
 | .loop c,.loop js m a,env,h,C=>bif ZGv (ZBk A c a) m&&ZGv (ZCB js) m then
    (match ZX2 js env with
    | some x0=>Ze x0 h λagain x h=>ZAP A P N c a (envJ A js m env x) h {C with n:=λe h=>toJ js e h again}
    | none=>False)
   else False
 | .exit id,_,env,h,C=>C.x id env h
 | .ret,_,env,h,C=>C.r none env h
 | _,_,_,_,_=>False
def Ct.le(C C':Ct):Prop:=(∀ e h,C.n e h->C'.n e h)/\(∀ k e h,C.x k e h->C'.x k e h)/\∀ o e h,C.r o e h->C'.r o e h
variable {js:JS}
theorem ZEn{e:Env}{J r:JT js->Hp->Prop}(y:∀ x h,J x h->r x h)(q:toJ js e h J):toJ js e h r:=by
 unfold toJ at q⊢;split at q
 .exact y _ _ q
 .exact q.elim
theorem ZTZ.mono{args:Array Value}{R q S S':Value->Hp->Prop}(s:ZTZ P f args h R S)(x:∀ v h',R v h'->q v h')(y:∀ v h',S v h'->S' v h'):ZTZ P f args h q S':=
 λw fr a b c=>(s w fr a b c).mono λ_ _ ⟨v,h',r,rest⟩=>⟨v,h',r.imp (λ⟨e,k⟩=>⟨e,x _ _ k⟩) (λ⟨e,k⟩=>⟨e,y _ _ k⟩),rest⟩
theorem ZRn(h:isX A P o=true):o.guard=none:=by
 unfold isX at h;split at h
 .cases h
 .assumption
def ZcR(A:Ann)(P:Program)(N:Nat)(o:Oper)(env:Env)(h:Hp)(K:Env->Hp->Prop)(S:Value->Env->Hp->Prop):Prop:=
 (ZFx N o=true/\∃ v,Za5 A P o env=some v/\K (put A env o.dst (.val v)) h)\/
 (Za5 A P o env=none/\((∃ x t v,o.op=.panic x/\look A env x=.v (.iface t v)/\S (.iface t v) env h)\/
   (∃ c,o.op=.call c/\ZFx N o=true/\
     ((∃ g l r fn b,c.callee=.value (.func g)/\ZIh (look A env) c.args.toList=some l/\A.res g=some r/\P.funcs[g]?=some fn/\fn.body=some b/\
       ZE5 P g l r h (λy h'=>K (put A env o.dst (.val (r.enc y))) h') (λv h'=>S v env h'))\/
     (∃ t u a len cap k n e k' cd zv z,c.callee=.builtin .append/\c.argTypes[0]?=some t/\c.argTypes[1]?=some u/\ZIh (look A env) c.args.toList=some [.slice a len cap,.int k n]/\P.underlying t=some (.slice e)/\P.underlying u=some (.int k')/\
       A.cdc e=some cd/\ZDh P e=some zv/\ZAz P cd e=true/\(1<=ZA8 P e/\ZA8 P e<=1048576)/\cd.dec zv=some z/\
       ZHV cd z e (ZA8 P e) a len cap n h λa' l' c' h'=>K (put A env o.dst (.val (.slice a' l' c'))) h')))))
theorem ZIx(q:ZXy A P N o env h K S):ZcR A P N o env h K S:=by
 unfold ZXy at q;split at q
 .rename_i v V;cases G:ZFx N o with
  | false=>rw[G]at q;exact q.elim
  | true=>rw[G]at q;exact .inl ⟨G,v,V,q⟩
 ·rename_i V;refine .inr ⟨V,?_⟩;split at q
  .rename_i x E;split at q
   .rename_i t v hl;exact .inl ⟨x,t,v,E,hl,q⟩
   .exact q.elim
  ·rename_i c E;cases G:ZFx N o with
   | false=>rw[G]at q;exact q.elim
   | true=>
     rw[G]at q;simp only[XL]at q;refine .inr ⟨c,E,rfl,?_⟩;split at q
     .rename_i g y;split at q
      .rename_i l r fn hl Y M;split at q
       .rename_i b D;exact .inl ⟨g,l,r,fn,b,y,hl,Y,M,D,q⟩
       .exact q.elim
      .exact q.elim
     ·rename_i y;split at q
      ·rename_i t u a len cap k n Z hu hl;split at q
       ·rename_i e k' O U;split at q
        ·rename_i cd zv I X;cases D:(ZAz P cd e&&(Nat.ble 1 (ZA8 P e)&&Nat.ble (ZA8 P e) 1048576)) with
         | false=>rw[D]at q;exact q.elim
         | true=>
           rw[D]at q;simp only[XL]at q;simp only[Xf]at D;split at q
           .rename_i z hz;exact .inr ⟨t,u,a,len,cap,k,n,e,k',cd,zv,z,y,Z,hu,hl,O,U,I,X,D.1,⟨Wi D.2.1,Wi D.2.2⟩,hz,q⟩
           .exact q.elim
        .exact q.elim
       .exact q.elim
      .exact q.elim
     .exact q.elim
  .exact q.elim
theorem ZKU(q:ZcR A P N o env h K S):ZXy A P N o env h K S:=by
 unfold ZXy;rcases q with ⟨D,v,y,q⟩|⟨y,⟨x,t,v,hop,hl,q⟩|⟨c,hop,D,⟨g,l,r,fn,b,hcal,hl,hr,hfn,hb,q⟩|⟨t,u,a,len,cap,k,n,e,k',cd,zv,z,hcal,ht,hu,hl,ht',hu',hcd,hzv,hf,hb,hz,q⟩⟩⟩
 .rw [y];dsimp only;rw[D];exact q
 .rw [y];dsimp only;rw[hop];dsimp only;rw[hl];exact q
 .rw [y];dsimp only;rw[hop];dsimp only;rw[D];simp only[XL];rw[hcal];dsimp only;rw[hl,hr,hfn];dsimp only;rw[hb];exact q
 .rw [y];dsimp only;rw[hop];dsimp only;rw[D];simp only[XL];rw[hcal];dsimp only;rw[hl,ht,hu];dsimp only;rw[ht',hu'];dsimp only;rw[hcd,hzv];dsimp only;rw[hf,Nat.ble_eq_true_of_le hb.1,Nat.ble_eq_true_of_le hb.2];simp only[Ug,XL];rw[hz];exact q
theorem ZP0{c:Cdc}{z:c.T}{len:Nat}{n:Int}{K K':Option Addr->Nat->Nat->Hp->Prop}(E:∀ a l c h,K a l c h->K' a l c h)(Z:ZHV c z e bytes a len cap n h K):ZHV c z e bytes a len cap n h K':=by
 obtain⟨h0,U,V,X⟩:=Z;refine⟨h0,U,λG=>?_,λG=>?_⟩
 .have:=V G;cases a with
  | none=>exact E _ _ _ _ this
  | some M=>exact⟨this.1,E _ _ _ _ this.2⟩
 .obtain ⟨hr,q⟩:=X G;refine⟨hr,?_⟩;have mono:∀ {R x:List c.T->Prop},(∀ xs,R xs->x xs)->ZCS c a len h R->ZCS c a len h x:=by
   intro R x r q;unfold ZCS at q⊢;cases a with
   | none=>exact⟨q.1,r _ q.2⟩
   | some M=>obtain⟨xs,y,D,O⟩:=q;exact⟨xs,y,D,r _ O⟩
  exact mono (λxs hx nc I y D b Y=>E _ _ _ _ (hx nc I y D b Y)) q
theorem ZMQ(E:∀ e h,K (put A env o.dst e) h->K' (put A env o.dst e) h)(G:∀ v e h,S v e h->S' v e h)(q:ZXy A P N o env h K S):
 ZXy A P N o env h K' S':=by
 rcases ZIx q with ⟨D,v,y,q⟩|⟨y,⟨x,t,v,hop,hl,q⟩|⟨c,hop,D,⟨g,l,r,fn,b,hcal,hl,hr,hfn,hb,q⟩|⟨t,u,a,len,cap,k,n,e,k',cd,zv,z,hcal,ht,hu,hl,ht',hu',hcd,hzv,hf,hb,hz,q⟩⟩⟩
 .exact ZKU (.inl ⟨D,v,y,E _ _ q⟩)
 .exact ZKU (.inr ⟨y,.inl ⟨x,t,v,hop,hl,G _ _ _ q⟩⟩)
 .exact ZKU (.inr ⟨y,.inr ⟨c,hop,D,.inl ⟨g,l,r,fn,b,hcal,hl,hr,hfn,hb,ZTZ.mono q (λv h' ⟨x,e,k⟩=>⟨x,e,E _ _ k⟩) (λv h' k=>G _ _ _ k)⟩⟩⟩)
 .exact ZKU (.inr ⟨y,.inr ⟨c,hop,D,.inr ⟨t,u,a,len,cap,k,n,e,k',cd,zv,z,hcal,ht,hu,hl,ht',hu',hcd,hzv,hf,hb,hz,ZP0 (λa l c h k=>E _ _ k) q⟩⟩⟩)
theorem ZJA(r:∀ e h,K e h->K' e h)(y:∀ v e h,S v e h->S' v e h)(q:ZLd A P N ops o env h K S):
 ZLd A P N ops o env h K' S':=by
 unfold ZLd at q⊢;cases x:isX A P o with
 | true=>rw[x]at q;exact ZMQ (λe h=>r _ h) y q
 | false=>rw[x]at q;exact ZAI q r
theorem ZK4:∀ {l:List Nat} {env:Env} {h:Hp} {K K':Env->Hp->Prop} {S S':Value->Env->Hp->Prop},(∀ e h,K e h->K' e h)->(∀ v e h,S v e h->S' v e h)->ZQt A P N ops l env h K S->ZQt A P N ops l env h K' S':=by
 intro l;induction l with
 | nil=>intro env h K K' S S' r _ q;exact r _ _ q
 | cons i l y=>
   intro env h K K' S S' r x q;unfold ZQt at q⊢;split at q
   .rename_i o D;exact ZJA (λe h q=>y r x q) x q
   .exact q.elim
theorem ZQT:∀ (c:Code) (a:An) (env:Env) (h:Hp) (C C':Ct),C.le C'->ZAP A P N c a env h C->ZAP A P N c a env h C':=by
 intro c;induction c with
 | skip=>intro a env h C C' D q;exact D.1 _ _ q
 | label l=>intro a env h C C' D q;exact D.1 _ _ q
 | region id ops G=>
   intro a env h C C' D q;cases a<;>try exact q.elim
   ·rename_i seq;cases G with
    | true=>
      simp only[ZAP]at q⊢;cases E:ZHv A P ops seq with
      | false=>rw[E]at q;exact q.elim
      | true=>rw[E]at q;exact ZFj D.1 q
    | false=>exact ZFj D.1 q
   .cases G with
    | true=>exact q.elim
    | false=>exact ZK4 D.1 (λv=>D.2.2 (some v)) q
   ·rename_i t;cases G with
    | true=>
      simp only[ZAP]at q⊢;cases E:ZG1 A P ops [] t with
      | false=>rw[E]at q;exact q.elim
      | true=>rw[E]at q;exact ZHq D.1 q
    | false=>exact q.elim
 | seq x y M O=>
   intro a env h C C' D q;cases a<;>try exact q.elim
   .rename_i a b;exact M a env h {C with n:=λe h=>ZAP A P N y b e h C} {C' with n:=λe h=>ZAP A P N y b e h C'} ⟨λe h q=>O b e h C C' D q,D.2⟩ q
   ·rename_i js m a b;simp only[ZAP]at q⊢;cases E:(ZGv (ZBk A x a) m&&ZGv (ZCB js) m) with
    | false=>rw[E]at q;exact q.elim
    | true=>
      rw[E]at q;exact M a env h {C with n:=λe h=>toJ js e h λx h=>ZAP A P N y b (envJ A js m env x) h C} {C' with n:=λe h=>toJ js e h λx h=>ZAP A P N y b (envJ A js m env x) h C'} ⟨λe h q=>ZEn (λz h q=>O b _ h C C' D q) q,D.2⟩ q
 | cond o x y M O=>
   intro a env h C C' D q;cases a<;>try exact q.elim
   rename_i a b;simp only[ZAP]at q⊢;split at q
   .rename_i t Z;cases t
    .exact O b env h C C' D q
    .exact M a env h C C' D q
   .exact q.elim
 | block id c V=>
   intro a env h C C' D q;cases a<;>try exact q.elim
   .rename_i a;refine V a env h {C with x:=λk=>bif Nat.beq k id then C.n else C.x k} {C' with x:=λk=>bif Nat.beq k id then C'.n else C'.x k} ⟨D.1,?_,D.2.2⟩ q;intro k e h q;dsimp only at q⊢;cases U:Nat.beq k id with
    | true=>rw[U]at q;exact D.1 _ _ q
    | false=>rw[U]at q;exact D.2.1 _ _ _ q
   ·rename_i js m a;simp only[ZAP]at q⊢;cases E:(ZGv (ZBk A c a) m&&ZGv (ZCB js) m) with
    | false=>rw[E]at q;exact q.elim
    | true=>
      rw[E]at q;refine V a env h {n:=λe h=>toJ js e h λx h=>C.n (envJ A js m env x) h,x:=λk=>bif Nat.beq k id then (λe h=>toJ js e h λx h=>C.n (envJ A js m env x) h) else C.x k,r:=C.r}
       {n:=λe h=>toJ js e h λx h=>C'.n (envJ A js m env x) h,x:=λk=>bif Nat.beq k id then (λe h=>toJ js e h λx h=>C'.n (envJ A js m env x) h) else C'.x k,r:=C'.r} ⟨λe h q=>ZEn (λz h q=>D.1 _ _ q) q,?_,D.2.2⟩ q
      intro k e h q;dsimp only at q⊢;cases U:Nat.beq k id with
      | true=>rw[U]at q;exact ZEn (λz h q=>D.1 _ _ q) q
      | false=>rw[U]at q;exact D.2.1 _ _ _ q
 | loop c V=>
   intro a env h C C' D q;cases a<;>try exact q.elim
   rename_i js m a;simp only[ZAP]at q⊢;cases E:(ZGv (ZBk A c a) m&&ZGv (ZCB js) m) with
   | false=>rw[E]at q;exact q.elim
   | true=>
     rw[E]at q;simp only[XL]at q⊢;split at q
     .obtain ⟨I,μ,h0,Y⟩:=q;exact⟨I,μ,h0,λx h X=>V a _ h {C with n:=λe h'=>toJ js e h' λx' h'=>I x' h'/\μ x' h'<μ x h} {C' with n:=λe h'=>toJ js e h' λx' h'=>I x' h'/\μ x' h'<μ x h} ⟨λe h q=>q,D.2⟩ (Y x h X)⟩
     .exact q.elim
 | exit id=>intro a env h C C' D q;exact D.2.1 _ _ _ q
 | ret=>intro a env h C C' D q;exact D.2.2 _ _ _ q
 | scope c V=>intro a env h C C' D q;exact q.elim
 | goto l=>intro a env h C C' D q;exact q.elim
 | refuse s=>intro a env h C C' D q;exact q.elim
 | rangeFunc f p x y=>intro a env h C C' D q;exact q.elim
def Agr(A:Ann)(m:Nat)(env env':Env):Prop:=∀ s,m.testBit s=false->A.refOf s=none->env' s=env s
theorem Agr.refl(m:Nat)(env:Env):Agr A m env env:=λ_ _ _=>rfl
theorem Agr.trans{a b c:Env}(h:Agr A m a b)(k:Agr A m' b c):Agr A (m ||| m') a c:=by intro s q r;simp only[Wu,WP]at q;exact(k s q.2 r).trans (h s q.1 r)
theorem Agr.mono{a b:Env}(h:Agr A m a b)(x:∀ s,m.testBit s=true->m'.testBit s=true):Agr A m' a b:=by
 intro s q y;refine h s ?_ y;cases r:m.testBit s with
 | false=>rfl
 | true=>rw[x s r]at q;cases q
theorem ZCu{a:Nat}(h:ZGv a b=true):∀ s,a.testBit s=true->b.testBit s=true:=by intro s q;have:=ZFc.1 h;rw[<-this,Wu,q,WI]
theorem ZNW{d:Option Tmp}{e:EV}:Agr A (ZQw d) env (put A env d e):=by
 intro s y x;cases d with
 | none=>rfl
 | some d=>
   have q:s≠d:=by rintro rfl;simp[ZQw]at y
   rcases ZBn (A:=A) (env:=env) e q with h|⟨_,_,r⟩
   .exact h
   .rw [x]at r;cases r
theorem ZMO(q:ZAi A P N ops o env h K):
 ZAi A P N ops o env h λe h=>Agr A (ZQw o.dst ||| ZQw (ZA9 A o)) env e/\K e h:=by
 refine ZC7 q (ZBA.refl o env) λd x e h' _ q=>⟨?_,q⟩
 rcases x with rfl|rfl
 .exact ZNW.mono λs r=>by rw[Wu,r,WI]
 .exact ZNW.mono λs r=>by rw[Wu,r,Vb]
theorem ZPI:∀ {l:List Oper},o∈l->∀ s,(ZQw o.dst ||| ZQw (ZA9 A o)).testBit s=true->(ZNZ A l).testBit s=true:=by
 intro l;induction l with
 | nil=>intro h;cases h
 | cons x l r=>
   intro h s q;simp only[ZNZ,Wu,Wf]at q⊢;rcases Xm.1 h with rfl|h
   .rcases q with q|q
    .exact .inl q
    .exact .inr (.inl q)
   .exact .inr (.inr (r h s (by simpa[Wu]using q)))
theorem ZJt:∀ {l:Seq} {env:Env} {h:Hp} {K:Env->Hp->Prop},ZHy A P N ops l env h K->ZHy A P N ops l env h λe h=>Agr A (ZNZ A ops.toList) env e/\K e h:=by
 intro l;induction l with
 | nil=>intro env h K q;exact⟨Agr.refl _ _,q⟩
 | cons y l M=>
   intro env h K q;obtain⟨i,ks⟩:=y;rw[ZC4]at q⊢;obtain⟨o,I,q⟩:=q;refine⟨o,I,ZAI (ZMO q) λe h ⟨D,G,q⟩=>⟨G,ZFj ?_ (M q)⟩⟩;rintro O h' ⟨x,E⟩;refine⟨(D.trans x).mono λs r=>?_,E⟩;rw[Wu,Wf]at r;rcases r with r|r
   .exact ZPI (by simpa using Xn (by simpa using I:ops.toList[i]?=some o)) s r
   .exact r
theorem ZKB{ops:Array Oper}:∀ {t:RT} {env:Env} {h:Hp} {K:Env->Hp->Prop},ZW4 A P N ops t env h K->ZW4 A P N ops t env h λe h=>Agr A (ZNZ A ops.toList) env e/\K e h
 | .leaf _,_,_,_,hk=>ZJt hk
 | .node _ _ _ _,_,_,_,hk=>⟨ZKB hk.1,ZKB hk.2⟩
theorem ZUJ(q:ZLd A P N ops o env h K S):
 ZLd A P N ops o env h (λe h=>Agr A (ZQw o.dst ||| ZQw (ZA9 A o)) env e/\K e h) S:=by
 unfold ZLd at q⊢;cases r:isX A P o with
 | true=>rw[r]at q;exact ZMQ (K':=λe h=>Agr A (ZQw o.dst ||| ZQw (ZA9 A o)) env e/\K e h) (λe h q=>⟨ZNW.mono λs x=>by rw[Wu,x,WI],q⟩) (λ_ _ _ h=>h) q
 | false=>rw[r]at q;exact ZMO q
theorem ZUx:∀ {l:List Nat} {env:Env} {h:Hp} {K:Env->Hp->Prop} {S:Value->Env->Hp->Prop},ZQt A P N ops l env h K S->ZQt A P N ops l env h (λe h=>Agr A (ZNZ A ops.toList) env e/\K e h) S:=by
 intro l;induction l with
 | nil=>intro env h K S q;exact⟨Agr.refl _ _,q⟩
 | cons i l G=>
   intro env h K S q;unfold ZQt at q⊢;split at q
   .rename_i o E;refine ZJA ?_ (λ_ _ _ h=>h) (ZUJ q);rintro e h ⟨y,q⟩;refine ZK4 ?_ (λ_ _ _ h=>h) (G q);rintro I h' ⟨x,D⟩;refine⟨(y.trans x).mono λs r=>?_,D⟩;rw[Wu,Wf]at r;rcases r with r|r
    .exact ZPI (by simpa using Xn (by simpa using E:ops.toList[i]?=some o)) s r
    .exact r
   .exact q.elim
def Ct.agr(C:Ct)(A:Ann)(m:Nat)(env:Env):Ct:=
 {n:=λe h=>Agr A m env e/\C.n e h,x:=λk e h=>Agr A m env e/\C.x k e h,r:=C.r}
theorem ZJS:∀ {js:JS} {x:JT js} {s:Nat} {e:EV},ZGW js x s=some e->(ZCB js).testBit s=true:=by
 intro js;match js with
 | []=>intro x s e h;cases h
 | [(t,b,c)]=>
   intro x s e h;simp only[ZGW]at h;cases q:Nat.beq s t with
   | false=>rw[q]at h;cases h
   | true=>rw[ZFc.1 q];simp[ZCB]
 | (t,b,c)::y::l=>
   intro x s e h;simp only[ZGW]at h;cases q:Nat.beq s t with
   | true=>rw[ZFc.1 q];simp[ZCB,Nat.testBit_two_pow]
   | false=>
     rw[q]at h;have:=ZJS (js:=y::l) h;unfold ZCB;rw[Wu,this,Vb]
theorem ZEm{x:JT js}(r:ZGv (ZCB js) m=true):Agr A m env (envJ A js m env x):=by
 intro s q y;unfold envJ;cases hl:ZGW js x s with
 | some e=>
   have:=ZCu r s (ZJS hl);rw[q]at this;cases this
 | none=>simp[q,y]
variable {C C':Ct}
theorem ZCl{c:Code}{a:An}(r:ZAP A P N c a env h C)(q:C.le C'):ZAP A P N c a env h C':=
 ZQT c a env h C C' q r
theorem ZHr:∀ (c:Code) (a:An) (env:Env) (h:Hp) (C:Ct),ZAP A P N c a env h C->ZAP A P N c a env h (C.agr A (ZBk A c a) env):=by
 intro c;induction c with
 | skip=>intro a env h C q;exact⟨Agr.refl _ _,q⟩
 | label l=>intro a env h C q;exact⟨Agr.refl _ _,q⟩
 | region id ops U=>
   intro a env h C q;cases a<;>try exact q.elim
   ·rename_i seq;cases U with
    | true=>
      simp only[ZAP]at q⊢;cases E:ZHv A P ops seq with
      | false=>rw[E]at q;exact q.elim
      | true=>rw[E]at q;exact ZJt q
    | false=>exact ZJt q
   .cases U with
    | true=>exact q.elim
    | false=>exact ZUx q
   ·rename_i t;cases U with
    | true=>
      simp only[ZAP]at q⊢;cases E:ZG1 A P ops [] t with
      | false=>rw[E]at q;exact q.elim
      | true=>rw[E]at q;exact ZKB q
    | false=>exact q.elim
 | seq x y V X=>
   intro a env h C q;cases a<;>try exact q.elim
   .rename_i a b;simp only[ZAP]at q⊢;refine ZCl (V a env h {C with n:=λe h=>ZAP A P N y b e h C} q) ⟨?_,?_,λ_ e h q=>q⟩
    .rintro e h ⟨D,q⟩;refine ZCl (X b e h C q) ⟨?_,?_,λ_ e h q=>q⟩
     .rintro e' h' ⟨G,M⟩;exact⟨D.trans G,M⟩
     .rintro k e' h' ⟨G,M⟩;exact⟨D.trans G,M⟩
    .rintro k e h ⟨D,q⟩;exact⟨D.mono λs O=>by show (ZBk A x a ||| ZBk A y b).testBit s=true;rw[Wu,O,WI],q⟩
   ·rename_i js m a b;simp only[ZAP]at q⊢;cases E:(ZGv (ZBk A x a) m&&ZGv (ZCB js) m) with
    | false=>rw[E]at q;exact q.elim
    | true=>
      rw[E]at q;simp only[XL]at q⊢;simp only[Xf]at E;refine ZCl (V a env h {C with n:=λe h=>toJ js e h λx h=>ZAP A P N y b (envJ A js m env x) h C} q) ⟨?_,?_,λ_ e h q=>q⟩
      .rintro e h ⟨D,q⟩;dsimp only at q⊢;refine ZEn (λz h q=>?_) q;refine ZCl (X b _ h C q) ⟨?_,?_,λ_ e h q=>q⟩
       .rintro e' h' ⟨G,M⟩;exact⟨(ZEm E.2).trans G,M⟩
       .rintro k e' h' ⟨G,M⟩;exact⟨(ZEm E.2).trans G,M⟩
      .rintro k e h ⟨D,q⟩;exact⟨D.mono λs O=>by show (m ||| ZBk A y b).testBit s=true;rw[Wu,ZCu E.1 s O,WI],q⟩
 | cond o x y V X=>
   intro a env h C q;cases a<;>try exact q.elim
   rename_i a b;simp only[ZAP]at q⊢;split at q
   .rename_i t ht;cases t
    .refine ZCl (X b env h C q) ⟨?_,?_,λ_ e h q=>q⟩
     .rintro e h ⟨D,q⟩;exact⟨D.mono λs O=>by show (ZBk A x a ||| ZBk A y b).testBit s=true;rw[Wu,O,Vb],q⟩
     .rintro k e h ⟨D,q⟩;exact⟨D.mono λs O=>by show (ZBk A x a ||| ZBk A y b).testBit s=true;rw[Wu,O,Vb],q⟩
    .refine ZCl (V a env h C q) ⟨?_,?_,λ_ e h q=>q⟩
     .rintro e h ⟨D,q⟩;exact⟨D.mono λs O=>by show (ZBk A x a ||| ZBk A y b).testBit s=true;rw[Wu,O,WI],q⟩
     .rintro k e h ⟨D,q⟩;exact⟨D.mono λs O=>by show (ZBk A x a ||| ZBk A y b).testBit s=true;rw[Wu,O,WI],q⟩
   .exact q.elim
 | block id c Z=>
   intro a env h C q;cases a<;>try exact q.elim
   .rename_i a;simp only[ZAP]at q⊢;refine ZCl (Z a env h {C with x:=λk=>bif Nat.beq k id then C.n else C.x k} q) ⟨λe h q=>q,?_,λ_ e h q=>q⟩;rintro k e h ⟨D,q⟩;dsimp only at q⊢;cases Y:Nat.beq k id with
    | true=>rw[Y]at q;exact⟨D,q⟩
    | false=>rw[Y]at q;exact⟨D,q⟩
   ·rename_i js m a;simp only[ZAP]at q⊢;cases E:(ZGv (ZBk A c a) m&&ZGv (ZCB js) m) with
    | false=>rw[E]at q;exact q.elim
    | true=>
      rw[E]at q;simp only[XL]at q⊢;simp only[Xf]at E;refine ZCl (Z a env h {n:=λe h=>toJ js e h λx h=>C.n (envJ A js m env x) h,x:=λk=>bif Nat.beq k id then (λe h=>toJ js e h λx h=>C.n (envJ A js m env x) h) else C.x k,r:=C.r} q) ⟨?_,?_,λ_ e h q=>q⟩
      .rintro e h ⟨D,q⟩;exact ZEn (λz h q=>⟨ZEm E.2,q⟩) q
      .rintro k e h ⟨D,q⟩;dsimp only at q⊢;cases Y:Nat.beq k id with
       | true=>rw[Y]at q;exact ZEn (λz h q=>⟨ZEm E.2,q⟩) q
       | false=>rw[Y]at q;exact⟨D.mono (ZCu E.1),q⟩
 | loop c Z=>
   intro a env h C q;cases a<;>try exact q.elim
   rename_i js m a;simp only[ZAP]at q⊢;cases E:(ZGv (ZBk A c a) m&&ZGv (ZCB js) m) with
   | false=>rw[E]at q;exact q.elim
   | true=>
     rw[E]at q;simp only[XL]at q⊢;simp only[Xf]at E;split at q
     .obtain ⟨I,μ,h0,hr⟩:=q;refine⟨I,μ,h0,λx h hI=>ZCl (Z a _ h {C with n:=λe h'=>toJ js e h' λx' h'=>I x' h'/\μ x' h'<μ x h} (hr x h hI)) ⟨λe h q=>q.2,?_,λ_ e h q=>q⟩⟩;rintro k e h ⟨D,q⟩;refine⟨((ZEm E.2).trans (D.mono (ZCu E.1))).mono λs O=>?_,q⟩;rw[Wu,Bool.or_self]at O;exact O
     .exact q.elim
 | exit id=>intro a env h C q;exact⟨Agr.refl _ _,q⟩
 | ret=>intro a env h C q;exact q
 | scope c Z=>intro a env h C q;exact q.elim
 | goto l=>intro a env h C q;exact q.elim
 | refuse s=>intro a env h C q;exact q.elim
 | rangeFunc f p x y=>intro a env h C q;exact q.elim
def ZBh(A:Ann)(N:Nat)(fr:Hp)(w0:World)(C:Ct):Exit->Act->World->Prop
 | .normal,a,w=>St A N fr w0 C.n a w
 | .exit id,a,w=>St A N fr w0 (C.x id) a w
 | .ret,a,w=>St A N fr w0 (C.r none) a w
 | .panic ch,a,w=>∃ v,ch=[{v,recovered:=false}]/\St A N fr w0 (C.r (some v)) a w
 | _,_,_=>False
theorem ZLf:∀ {js:JS} {env:Env} {x:JT js},ZX2 js env=some x->∀ s e,ZGW js x s=some e->env s=e:=by
 intro js
 have E:∀ {b:Bool} {c:Cdc} {ev:EV} {x:c.T},ZbN b c ev=some x->ev=ev1 b c x:=by
  intro b c ev x h;cases ev with
  | val v=>cases b with
    | true=>cases h
    | false=>simp only[ZbN]at h;simp[ev1,c.law _ _ h]
  | box cs=>cases b with
    | false=>cases h
    | true=>
      simp only[ZbN,ZcS]at h;cases G:c.agg with
      | true=>
        rw[G]at h;simp[ev1,c.law _ _ h,Value.cells]
      | false=>
        rw[G]at h;dsimp only at h;split at h
        ·rename_i v;cases D:ZGZ v with
         | false=>rw[D]at h;cases h
         | true=>
           rw[D]at h;simp[ev1,c.law _ _ h,ZFf D]
        .cases h
  | ref o=>cases h
  | unk=>cases h
 match js with
 | []=>intro env x _ s e h;cases h
 | [(t,b,c)]=>
   intro env x h s e hl;simp only[ZGW]at hl;simp only[ZX2]at h;cases q:Nat.beq s t with
   | false=>rw[q]at hl;cases hl
   | true=>
     rw[q]at hl;simp only[XL,XT]at hl;rw[ZFc.1 q,E h,hl]
 | (t,b,c)::y::l=>
   intro env x h s e hl;simp only[ZX2]at h;split at h
   ·rename_i z M;split at h
    ·rename_i r I;cases h;simp only[ZGW]at hl;cases q:Nat.beq s t with
     | true=>
       rw[q]at hl;simp only[XL,XT]at hl;rw[ZFc.1 q,E M,hl]
     | false=>
       rw[q]at hl;exact ZLf (js:=y::l) I s e hl
    .cases h
   .cases h
theorem ZHa:∀ {js:JS} {x:JT js} {s:Nat} {e:EV},ZGW js x s=some e->∀ o,e≠.ref o:=by
 intro js;have k1:∀ (b:Bool) (c:Cdc) (x:c.T) (o:Nat),ev1 b c x≠.ref o:=by intro b c x o;cases b<;>simp[ev1]
 match js with
 | []=>intro x s e h;cases h
 | [(t,b,c)]=>
   intro x s e h o;simp only[ZGW]at h;cases q:Nat.beq s t with
   | false=>rw[q]at h;cases h
   | true=>rw[q]at h;simp only[XL,XT]at h;rw[<-h];exact k1 _ _ _ _
 | (t,b,c)::y::l=>
   intro x s e h o;simp only[ZGW]at h;cases q:Nat.beq s t with
   | true=>rw[q]at h;simp only[XL,XT]at h;rw[<-h];exact k1 _ _ _ _
   | false=>rw[q]at h;exact ZHa (js:=y::l) h o
variable {a:Act}
theorem Rel.weaken(R:Rel A N bx env a h fr w0 w)(D:∀ s,env' s=.unk\/(env' s=env s/\∀ o,env s≠.ref o)):
 Rel A N bx env' a h fr w0 w:=by
 have back:∀ s cs,env' s=.box cs->env s=.box cs:=by
  intro s cs h;rcases D s with e|⟨e,_⟩
  .rw [e]at h;cases h
  .rw [<-e];exact h
 refine⟨R.size,R.defers,R.hle,R.frle,R.dj,R.same,?_,λs cs h=>R.prom s cs (back s cs h),λs t cs y E G=>R.inj s t cs y (back s cs E) (back t y G)⟩;intro s;have r:=R.slot s;rcases D s with e|⟨e,x⟩
 .rw [e];trivial
 .rw [e];cases q:env s with
  | val v=>rw[q]at r;exact r
  | box cs=>rw[q]at r;exact r
  | ref o=>exact absurd q (x o)
  | unk=>trivial
theorem Rel.envJ(R:Rel A N bx env' a h fr w0 w)(D:Agr A m env env'){x:JT js}(I:ZX2 js env'=some x):
 Rel A N bx (envJ A js m env x) a h fr w0 w:=by
 refine R.weaken λs=>?_
 unfold Eng.envJ
 cases hl:ZGW js x s with
 | some e=>
   right
   have:=ZLf I s e hl
   refine⟨this.symm,λo r=>?_⟩
   -- what is handed on is a value or a variable
   rw[this]at r
   exact ZHa hl o r
 | none=>
   cases q:(m.testBit s||(A.refOf s).isSome) with
   | true=>left;rfl
   | false=>
     right
     simp only[WP]at q
     have y:A.refOf s=none:=by cases y:A.refOf s with
      | none=>rfl
      | some t=>rw[y]at q;cases q.2
     have e:=D s q.1 y
     refine⟨by simp only[Yu];exact e.symm,λo r=>?_⟩
     have E:=R.slot s
     rw[r]at E
     obtain⟨t,G,_⟩:=E
     rw[y]at G;cases G
theorem Rel.of_heap(R:Rel A N bx env a h fr w0 w)(r:w'.heap=w.heap)(y:ZGj w w'):Rel A N bx env a h fr w0 w':=
 R.world (λb o q=>by rw[r];exact R.hle b o q) (λb o q=>by rw[r];exact R.frle b o q) R.dj y (λb _ x _=>⟨by rw[r],x⟩)
theorem ZDl{K:Act->World->Prop}(hl:ZFC P ops l a w K)(q:∀ a w,K a w->Q .normal a w)(b:Frame)(k:List Item)(cs:List Frame):∃ e a' w',Q e a' w'/\Arrives P (lone (b.at a (.inRegion ops l::k)) cs w) b k cs e a' w':=by
 obtain⟨a',w',r,x⟩:=hl b k cs;exact⟨.normal,a',w',q _ _ r,x⟩
theorem ZQF(d:Nat)(q:P.underlying t=some (.interface ms))(r:TypeId)(v:Value)(w:World):(Op.equalIn (d+1) t (.iface r v) .nilIface).run P w=.ok false w:=by simp[Op.equalIn,Zg q]
theorem ZWS(d:Nat)(q:P.underlying t=some (.interface ms))(w:World):(Op.equalIn (d+1) t .nilIface .nilIface).run P w=.ok true w:=by simp[Op.equalIn,Zg q]
theorem ZVs(R:Rel A N bx env a h fr w0 w1)(q:Za5 A P o env=some v)(w:World):(execOp a.eval o).run P w=.ok (.value v) w:=by
 obtain⟨dst,op,type,pos,after,guard⟩:=o;unfold Za5 at q;dsimp only at q;split at q
 ·rename_i x V t;split at q
  ·rename_i D u fs hl r;have e:=R.eval_v hl;cases G:Nat.beq D t with
   | true=>
     rw[G]at q;simp only[XL,XT]at q;subst q;have:D=t:=ZFc.1 G;subst this;simp[execOp,e,Instr.typeAssert,Zg r]
   | false=>
     rw[G]at q;simp only[Yu]at q;split at q
     .rename_i z U;simp only[XT]at q;subst q;have:D≠t:=ZUY.1 G;simp[execOp,e,Instr.typeAssert,Zg r,this,ZDc U]
     .cases q
  .cases q
 .rename_i t x ty;split at q
  .rename_i D u ms hl r;have e:=R.eval_v hl;simp only[XT]at q;subst q;have I:=ZQF (P:=P) 9999 r D u w;simp only[execOp,e,show a.eval (.const .nilIface)=Value.nilIface from rfl,Sem.run_bind,eqGuard,binOp,Op.equal,Op.maxDepth];simp[I]
  .rename_i ms hl r;have e:=R.eval_v hl;simp only[XT]at q;subst q;have I:=ZWS (P:=P) 9999 r w;simp only[execOp,e,show a.eval (.const .nilIface)=Value.nilIface from rfl,Sem.run_bind,eqGuard,binOp,Op.equal,Op.maxDepth];simp[I]
  .cases q
 .rename_i c;obtain⟨E,args,M⟩:=c;dsimp only at q;split at q
  .rename_i t p len n O hl;split at q
   .rename_i e r;simp only[XT]at q;subst q;have y:args.map a.eval=#[.slice p len n]:=WM (by simpa using ZAp R hl);simp[execOp,resolve,invoke,builtin,y,Builtin.cap_,O,Zg r,goInt]
   .cases q
  .cases q
 .cases q
theorem ZPn(hP:ZGz P A):∀ (l:List Nat) {bx:Nat->Nat} {env:Env} {a:Act} {h:Hp} {w:World} {K:Env->Hp->Prop} {S:Value->Env->Hp->Prop},Rel A N bx env a h fr w0 w->ZQt A P N ops l env h K S->
 ∀ (b:Frame) (k:List Item) (cs:List Frame),∃ e a' w',((e=Exit.normal/\St A N fr w0 K a' w')\/∃ v,e=.panic [{v,recovered:=false}]/\St A N fr w0 (S v) a' w')/\
  Arrives P (lone (b.at a (.inRegion ops l::k)) cs w) b k cs e a' w':=by
 intro l;induction l with
 | nil=>intro bx env a h w K S R I b k cs;exact⟨.normal,a,w,.inl ⟨rfl,_,_,_,R,I⟩,.one step_region_end⟩
 | cons i l ih=>
   intro bx env a h w K S R I b k cs;unfold ZQt at I;split at I
   ·rename_i o ho;unfold ZLd at I;cases hx:isX A P o with
    | false=>
      rw[hx]at I;obtain⟨a',w',⟨ab,env',h',U,E⟩,O⟩:=ZEo hP R ho I b l k cs;obtain⟨e,Z,Y,X,q⟩:=ih U E b k cs;exact⟨e,Z,Y,X,.of_steps O q⟩
    | true=>
    rw[hx]at I;simp only[XL]at I;have hg:=ZRn hx;have hw:=ZIA (ops:=ops) R (ZUf.free hg);have hsg:=stepG_op (P:=P) (b:=b) (k:=k) (cs:=cs) (w:=w) (rest:=l) ho hw;have hfin:∀ v,(b.at a (.inRegion ops (i::l)::k)).finish v=b.at (a.put o.dst v) (.inRegion ops l::k):=by intro v;rw[Frame.finish_at,ho];rfl
    rcases ZIx I with ⟨hd,v,hv,E⟩|⟨hv,⟨x,t,v,hop,hl,hS⟩|⟨c,hop,hd,⟨g,l',r,fn,bd,hcal,hl,hr,hfn,hb,hc⟩|⟨t,u,p,len,cap,kk,n,e,k',cd,zv,z,hcal,ht,hu,hl,ht',hu',hcd,hzv,hf,hb,hz,hgr⟩⟩⟩
    .obtain ⟨a',w',⟨ab,env',h',U,V⟩,O⟩:=ZD3 (a':=a.put o.dst v) (K:=St A N fr w0 λe h=>ZQt A P N ops l e h K S) ho hw (.inl ⟨v,ZVs R hv w,rfl⟩) ⟨_,_,_,R.put hP.good (ZFi hd) (ev:=.val v) rfl,E⟩ b l k cs;obtain⟨e,Z,Y,X,q⟩:=ih U V b k cs;exact⟨e,Z,Y,X,.of_steps O q⟩
    .have y:(execOp a.eval o).run P w=.halt (.panic (.iface t v)) w:=by obtain⟨dst,op,type,pos,after,guard⟩:=o;cases hop;simp only[execOp,R.eval_v hl];rfl
     refine⟨.panic [{v:=.iface t v,recovered:=false}],a,w,.inr ⟨_,rfl,_,_,_,R,hS⟩,.inRegion ops (i::l)::k,.one (step_lone_go ?_)⟩;rw[hsg,<-Frame.raise_at];simp[stepG.apply,y]
    ·have y:(execOp a.eval o).run P w=.ok (.enter g l'.toArray) w:=by obtain⟨dst,op,type,pos,after,guard⟩:=o;cases hop;obtain⟨M,args,ats⟩:=c;cases hcal;have D:args.map a.eval=l'.toArray:=WM (by simpa using ZAp R hl);have hng:=hP.noNG g fn hfn;simp only[execOp,resolve,Deferred.ofValue,Act.eval,D,Sem.run_bind,Sem.run_pure,Result.andThen_ok,invoke,callFunc,run_program,hfn,hng,Wb,WR,hb,Vn];congr 2;simp
     obtain⟨e,w'',fr',⟨v,h',he,hle',hfr,hdj,sm⟩,hsteps,_,hleave⟩:=hc w ((ZFJ bx env w).un fr) R.hle (Hp.un_le R.boxes_le R.frle) (Hp.dj_un R.boxes_dj R.dj) (b.at a (.inRegion ops (i::l)::k)::cs);have U:=R.called hle' hfr hdj sm
     have G:step P (lone (b.at a (.inRegion ops (i::l)::k)) cs w)=
         .next (lone (Frame.enter P g l'.toArray .normal) (b.at a (.inRegion ops (i::l)::k)::cs) w):=
       step_lone_go (by rw[hsg];simp[stepG.apply,y,Frame.at])
     rcases he with ⟨rfl,x,rfl,E⟩|⟨rfl,hS⟩
     .obtain ⟨e,Z,Y,X,q⟩:=ih (U.put hP.good (ZFi hd) (ev:=.val (r.enc x)) rfl) E b k cs;refine⟨e,Z,Y,X,.of_steps (.head G (Steps.trans hsteps (.one ?_))) q⟩;rw[<-hfin];exact step_leave_returned hleave
     .refine ⟨.panic [{v,recovered:=false}],a,w'',.inr ⟨v,rfl,_,_,_,U,hS⟩,.inRegion ops (i::l)::k,.head G (Steps.trans hsteps (.one ?_))⟩;rw[<-Frame.raise_at];exact step_leave_panicked hleave
    .obtain ⟨p',l2,c',h',w',E,hr,O⟩:=ZUv (ty:=o.type) (j:=kk) ht hu ht' hu' hf rfl hb.1 hb.2 hzv (cd.law _ _ hz).symm R.hle R.frle R.dj hgr;have y:(execOp a.eval o).run P w=.ok (.value (.slice p' l2 c')) w':=by obtain⟨dst,op,type,pos,after,guard⟩:=o;cases hop;obtain⟨M,args,ats⟩:=c;cases hcal;have D:args.map a.eval=#[.slice p len cap,.int kk n]:=WM (by simpa using ZAp R hl);simp only[execOp,resolve,Sem.run_bind,Sem.run_pure,Result.andThen_ok,invoke,builtin,D];rw[hr];rfl
     have U:=R.world O.hle O.frle O.dj O.same O.keep;obtain⟨a',Y,⟨ab,env',h2,R2,V⟩,hst⟩:=ZD3 (a':=a.put o.dst (.slice p' l2 c')) (w':=w') (K:=St A N fr w0 λe h=>ZQt A P N ops l e h K S) ho hw (.inl ⟨_,y,rfl⟩) ⟨_,_,_,U.put hP.good (ZFi hd) (ev:=.val _) rfl,E⟩ b l k cs;obtain⟨e,a3,w3,X,q⟩:=ih R2 V b k cs;exact⟨e,a3,w3,X,.of_steps hst q⟩
   .exact I.elim
theorem ZD0(hP:ZGz P A)(hmix:P.follows .mixedOrders=true):∀ (c:Code) (an:An) (bx:Nat->Nat) (env:Env) (a:Act) (h:Hp) (w:World) (C:Ct),
 Rel A N bx env a h fr w0 w->ZAP A P N c an env h C->c.wp P (ZBh A N fr w0 C) a w:=by
 intro c
 induction c with
 | skip=>intro an bx env a h w C R q;exact wp_skip ⟨_,_,_,R,q⟩
 | label l=>intro an bx env a h w C R q;exact wp_label ⟨_,_,_,R,q⟩
 | region id ops X=>
   intro an bx env a h w C R q
   cases an<;>try exact q.elim
   ·rename_i seq
    cases X with
    | false=>
      simp only[ZAP]at q
      have:=ZMB (N:=N) hP (ZCi ops.size) R q
      rw[show (ZCi ops.size).map Prod.fst=List.range ops.size by simp[ZCi,Function.comp_def]]at this
      intro b k cs
      obtain⟨e,a',w',r,ha⟩:=ZDl (Q:=ZBh A N fr w0 C) this (λa w q=>q) b k cs
      exact⟨e,a',w',r,.of_steps (.one step_region) ha⟩
    | true=>
      simp only[ZAP]at q
      cases M:ZHv A P ops seq with
      | false=>rw[M]at q;exact q.elim
      | true=>
        rw[M]at q
        intro b k cs
        have U:Rel A N bx env a h fr w0 {w with drawn:=w.drawn+1}:=R.of_heap rfl ⟨rfl,rfl,rfl⟩
        have:=ZPu (N:=N) hP M U q (w.tape w.drawn (.order b.fn id))
        obtain⟨e,a',w',r,ha⟩:=ZDl (Q:=ZBh A N fr w0 C) this (λa w q=>q) b k cs
        refine⟨e,a',w',r,.of_steps (.one step_region_draw) ?_⟩
        simp only[Region.schedule,hmix,WI,Yp]
        exact ha
   ·cases X with
    | true=>exact q.elim
    | false=>
      simp only[ZAP]at q
      intro b k cs
      obtain⟨e,a',w',r,ha⟩:=ZPn (N:=N) hP (List.range ops.size) R q b k cs
      refine⟨e,a',w',?_,.of_steps (.one step_region) ha⟩
      rcases r with ⟨rfl,r⟩|⟨v,rfl,r⟩
      .exact r
      .exact ⟨v,rfl,r⟩
   ·rename_i t
    cases X with
    | false=>exact q.elim
    | true=>
      simp only[ZAP]at q
      cases M:ZG1 A P ops [] t with
      | false=>rw[M]at q;exact q.elim
      | true=>
        rw[M]at q
        intro b k cs
        have U:Rel A N bx env a h fr w0 {w with drawn:=w.drawn+1}:=R.of_heap rfl ⟨rfl,rfl,rfl⟩
        have:=ZGP (N:=N) hP U (w.tape w.drawn (.order b.fn id)) t [] M (λx y h=>by cases h) q
        obtain⟨e,a',w',r,ha⟩:=ZDl (Q:=ZBh A N fr w0 C) this (λa w q=>q) b k cs
        refine⟨e,a',w',r,.of_steps (.one step_region_draw) ?_⟩
        simp only[Region.schedule,hmix,WI,Yp]
        exact ha
 | seq x y ihx ihy=>
   intro an bx env a h w C R q
   cases an<;>try exact q.elim
   .rename_i a' b'
    simp only[ZAP]at q
    refine wp_seq (wp_mono (ihx a' bx env a h w _ R q) ?_)
    intro e Z w2 r
    cases e with
    | normal=>obtain⟨E,env',h',U,D⟩:=r;exact ihy b' E env' Z h' w2 C U D
    | exit id=>exact r
    | ret=>exact r
    | goto l=>exact r.elim
    | panic c=>exact r
    | outgrown=>exact r.elim
   ·rename_i js m a' b'
    simp only[ZAP]at q
    cases M:(ZGv (ZBk A x a') m&&ZGv (ZCB js) m) with
    | false=>rw[M]at q;exact q.elim
    | true=>
      rw[M]at q
      simp only[XL,ZT]at q
      simp only[Xf]at M
      refine wp_seq (wp_mono (ihx a' bx env a h w _ R (ZHr x a' env h _ q)) ?_)
      intro e Z w2 r
      cases e with
      | normal=>
        obtain⟨E,env',h',U,G,D⟩:=r
        dsimp only[Ct.agr]at D
        unfold toJ at D
        split at D
        .rename_i z hz
         exact ihy b' E _ Z h' w2 C (U.envJ (G.mono (ZCu M.1)) hz) D
        .exact D.elim
      | exit id=>obtain⟨E,env',h',U,G,D⟩:=r;exact⟨E,env',h',U,D⟩
      | ret=>exact r
      | goto l=>exact r.elim
      | panic c=>exact r
      | outgrown=>exact r.elim
 | cond o x y ihx ihy=>
   intro an bx env a h w C R q
   cases an<;>try exact q.elim
   rename_i a' b'
   simp only[ZAP]at q
   split at q
   .rename_i t ht
    cases t
    .exact wp_cond (t:=false) (R.eval_v ht) (ihy b' bx env a h w C R q)
    .exact wp_cond (t:=true) (R.eval_v ht) (ihx a' bx env a h w C R q)
   .exact q.elim
 | block id c ih=>
   intro an bx env a h w C R q
   cases an<;>try exact q.elim
   ·rename_i a'
    simp only[ZAP]at q
    refine wp_block (wp_mono (ih a' bx env a h w _ R q) ?_)
    intro e Z w2 r
    cases e with
    | normal=>exact r
    | exit k=>
      simp only[ZBh]at r
      unfold Exit.inBlock
      dsimp only
      by_cases e:k=id
      .subst e
       rw[Xe rfl]
       rw[ZFc.2 rfl]at r;exact r
      .rw [Xd e]
       rw[ZUY.2 e]at r;exact r
    | ret=>exact r
    | goto l=>exact r.elim
    | panic c=>exact r
    | outgrown=>exact r.elim
   ·rename_i js m a'
    simp only[ZAP]at q
    cases M:(ZGv (ZBk A c a') m&&ZGv (ZCB js) m) with
    | false=>rw[M]at q;exact q.elim
    | true=>
      rw[M]at q
      simp only[XL,ZT]at q
      simp only[Xf]at M
      have fin:∀ {E:Nat->Nat} {env':Env} {Z:Act} {h':Hp} {w2:World},Rel A N E env' Z h' fr w0 w2->Agr A (ZBk A c a') env env'->toJ js env' h' (λx h=>C.n (Eng.envJ A js m env x) h)->St A N fr w0 C.n Z w2:=by
       intro E env' Z h' w2 U G D
       unfold toJ at D
       split at D
       .rename_i z hz
        exact⟨_,_,_,U.envJ (G.mono (ZCu M.1)) hz,D⟩
       .exact D.elim
      refine wp_block (wp_mono (ih a' bx env a h w _ R (ZHr c a' env h _ q)) ?_)
      intro e Z w2 r
      cases e with
      | normal=>obtain⟨E,env',h',U,G,D⟩:=r;exact fin U G D
      | exit k=>
        obtain⟨E,env',h',U,G,D⟩:=r
        dsimp only[Ct.agr]at D
        unfold Exit.inBlock
        dsimp only
        by_cases e:k=id
        .subst e
         rw[Xe rfl]
         rw[ZFc.2 rfl]at D
         exact fin U G D
        .rw [Xd e]
         rw[ZUY.2 e]at D;exact⟨E,env',h',U,D⟩
      | ret=>exact r
      | goto l=>exact r.elim
      | panic c=>exact r
      | outgrown=>exact r.elim
 | loop c ih=>
   intro an bx env a h w C R q
   cases an<;>try exact q.elim
   rename_i js m a'
   simp only[ZAP]at q
   cases M:(ZGv (ZBk A c a') m&&ZGv (ZCB js) m) with
   | false=>rw[M]at q;exact q.elim
   | true=>
     rw[M]at q
     simp only[XL]at q
     simp only[Xf]at M
     split at q
     ·rename_i x0 hx0
      obtain⟨I,μ,h0,hr⟩:=q
      -- the measure,on the machine's side: out of a choice
      let Inv:Nat->Act->World->Prop:=λn a w=>∃ E x h',Rel A N E (Eng.envJ A js m env x) a h' fr w0 w/\I x h'/\μ x h'=n
      have round:∀ n,∀ a w,Inv n a w->c.wp P (Exit.then (λa' w'=>∃ n',n'<n/\Inv n' a' w') (ZBh A N fr w0 C)) a w:=by
       rintro n a w ⟨E,x,h',U,hI,rfl⟩
       refine wp_mono (ih a' E _ a h' w _ U (ZHr c a' _ h' _ (hr x h' hI))) ?_
       intro e Z w2 r
       cases e with
       | normal=>
         obtain⟨bx2,Y,h2,R2,G,V⟩:=r
         dsimp only[Ct.agr]at V
         unfold toJ at V
         split at V
         ·rename_i x2 hx2
          have hag2:Agr A m env Y:=((ZEm M.2).trans (G.mono (ZCu M.1))).mono λs hs=>by
              rw[Wu,Bool.or_self]at hs;exact hs
          exact⟨_,V.2,bx2,x2,h2,R2.envJ hag2 hx2,V.1,rfl⟩
         .exact V.elim
       | exit id=>obtain⟨bx2,Y,h2,R2,G,V⟩:=r;exact⟨bx2,Y,h2,R2,V⟩
       | ret=>exact r
       | goto l=>exact r.elim
       | panic c=>exact r
       | outgrown=>exact r.elim
      -- the loop by strong induction
      intro b k cs
      have key:∀ n a w,Inv n a w->∃ e a' w',ZBh A N fr w0 C e a' w'/\Arrives P (lone (b.at a (.code c::.inLoop c::k)) cs w) b k cs e a' w':=by
       intro n
       induction n using Nat.strongRecOn with
       | _ n ihn=>
         intro a w hI
         obtain⟨e,a₁,w₁,r,O⟩:=round n a w hI b (.inLoop c::k) cs
         cases e with
         | normal=>
           obtain⟨n',hlt,hI'⟩:=r
           obtain⟨e₂,a₂,w₂,hq₂,harr₂⟩:=ihn n' hlt a₁ w₁ hI'
           exact⟨e₂,a₂,w₂,hq₂,.of_steps (Steps.trans O (.one step_inLoop)) harr₂⟩
         | exit id=>exact⟨.exit id,a₁,w₁,r,.pass (x:=.inLoop c) rfl (λ_ _=>.inl (by simp)) O⟩
         | ret=>exact⟨.ret,a₁,w₁,r,.pass (x:=.inLoop c) rfl (λ_ _=>.inl (by simp)) O⟩
         | goto l=>exact r.elim
         | panic ch=>exact⟨.panic ch,a₁,w₁,r,.pass (x:=.inLoop c) rfl (λ_ _=>.inl (by simp)) O⟩
         | outgrown=>exact r.elim
      obtain⟨e,a',w',r,O⟩:=key _ a w ⟨bx,x0,h,R.envJ (Agr.refl m env) hx0,h0,rfl⟩
      exact⟨e,a',w',r,.of_steps (.one step_loop) O⟩
     .exact q.elim
 | exit id=>intro an bx env a h w C R q;exact wp_exit ⟨_,_,_,R,q⟩
 | ret=>intro an bx env a h w C R q;exact wp_ret ⟨_,_,_,R,q⟩
 | scope c ih=>intro an bx env a h w C R q;exact q.elim
 | goto l=>intro an bx env a h w C R q;exact q.elim
 | refuse s=>intro an bx env a h w C R q;exact q.elim
 | rangeFunc f p x y=>intro an bx env a h w C R q;exact q.elim
def ZW2(A:Ann)(P:Program):List ResultVar->Env->Hp->(List Value->Prop)->Prop
 | [],_,_,k=>k []
 | .tmp t::l,env,h,k=>match env t with
   | .val v=>ZW2 A P l env h λvs=>k (v::vs)
   | _=>False
 | .cell t ty::l,env,h,k=>match env t with
   | .box cs=>match ZA3 P ty with
     | some n=>ZJl (ZCc P ty) n cs 0 λe=>match e with
       | .val v=>ZW2 A P l env h λvs=>k (v::vs)
       | _=>False
     | none=>False
   | .val (.pointer (some a))=>match A.cdc ty with
     | some c=>bif ZAz P c ty then ZC c a h λx=>ZW2 A P l env h λvs=>k (c.enc x::vs) else False
     | none=>False
   | _=>False
def ZKd:List Value->Value
 | [v]=>v
 | vs=>.tuple vs.toArray
def ZYY(A:Ann)(P:Program)(fn:Func)(rc:Cdc)(Q:rc.T->Hp->Prop)(env:Env)(h:Hp):Prop:=
 ZW2 A P fn.results.toList env h λvs=>match rc.dec (ZKd vs) with
  | some r=>Q r h
  | none=>False
def ZW9(args:List Value):Env:=λs=>match args[s]? with
 | some v=>.val v
 | none=>.unk
def Zb4(R:Env->Hp->Prop)(S:Value->Env->Hp->Prop):Option Value->Env->Hp->Prop
 | none=>R
 | some v=>S v
def fnD(A:Ann)(P:Program)(f:FuncId)(an:An)(rc:Cdc)(args:List Value)(h:Hp)(Q:rc.T->Hp->Prop):Prop:=
 match A.defs,P.funcs[f]? with
 | [],some fn=>match fn.body with
   | some c=>bif Nat.ble args.length fn.ntmps then
      ZAP A P fn.ntmps c an (ZW9 args) h {n:=ZYY A P fn rc Q,x:=λ_ _ _=>False,r:=Zb4 (ZYY A P fn rc Q) λ_ _ _=>False}
     else False
   | none=>False
 | _,_=>False
def fnX(A:Ann)(P:Program)(f:FuncId)(an:An)(rc:Cdc)(args:List Value)(h:Hp)(Q:rc.T->Hp->Prop)(S:Value->Hp->Prop):Prop:=
 match A.defs,P.funcs[f]? with
 | [],some fn=>match fn.body with
   | some c=>bif Nat.ble args.length fn.ntmps then
      ZAP A P fn.ntmps c an (ZW9 args) h {n:=ZYY A P fn rc Q,x:=λ_ _ _=>False,r:=Zb4 (ZYY A P fn rc Q) λv _ h=>S v h}
     else False
   | none=>False
 | _,_=>False
theorem ZUj(X:ZGz P A)(R:Rel A N bx env a h fr w0 w):∀ (l:List ResultVar) (k:List Value->Prop),ZW2 A P l env h k->
 ∃ vs,k vs/\(l.mapM (λ|.tmp t=>pure (a.tmps.getD t undef)|.cell c t=>do loadVar t (<-asAddr (a.tmps.getD c undef)):ResultVar->Sem Value)).run P w=.ok vs w:=by
 intro l;induction l with
 | nil=>intro k q;exact⟨[],q,rfl⟩
 | cons r l V=>
   intro k q;cases r with
   | tmp t=>
     simp only[ZW2]at q;split at q
     .rename_i v D;obtain⟨vs,E,G⟩:=V _ q;have x:=R.slot t;rw[D]at x;simp only[ZDV]at x;refine⟨v::vs,E,?_⟩;simp only[VX,Sem.run_bind,Sem.run_pure,Result.andThen_ok,G];simp[x]
     .exact q.elim
   | cell t ty=>
     simp only[ZW2]at q;split at q
     ·rename_i cs D;have x:=R.slot t;rw[D]at x;obtain⟨ht,⟨e,Y⟩,_,_⟩:=x;split at q
      ·rename_i n hn;obtain⟨d,Z⟩:=X.formed _ _ hn;have fin:∀ v,(loadVar ty ⟨bx t,0,none⟩).run P w=.ok v w->ZW2 A P l env h (λvs=>k (v::vs))->
         ∃ vs,k vs/\((ResultVar.cell t ty::l).mapM (λ|.tmp t=>pure (a.tmps.getD t undef)|.cell c t=>do loadVar t (<-asAddr (a.tmps.getD c undef)):ResultVar->Sem Value)).run P w=.ok vs w:=by
         intro v D q
         obtain⟨vs,E,G⟩:=V _ q
         refine⟨v::vs,E,?_⟩
         have:a.tmps.getD t undef=.pointer (some ⟨bx t,0,none⟩):=by simp[ht]
         rw[VX]
         dsimp only
         rw[Sem.run_bind,Sem.run_bind,this]
         rw[show (asAddr (Value.pointer (some ⟨bx t,0,none⟩)))=pure ⟨bx t,0,none⟩ from rfl]
         simp only[Sem.run_pure,Result.andThen_ok,D,Sem.run_bind,G]
       unfold ZJl at q;cases I:ZCc P ty with
       | true=>
         rw[I]at q;dsimp only at q;cases hl:Nat.ble (0+n) cs.length with
         | false=>rw[hl]at q;exact q.elim
         | true=>
           rw[hl]at q;have hl:=Wi hl;have:=ZDf (P:=P) (w:=w) hn ⟨d,Z⟩ (cs:=(cs.drop 0).take n) (by simp;omega) (ZOK (off:=0) Y hl) (by rw[I];simp);rw[I]at this;exact fin _ this q
       | false=>
         rw[I]at q;dsimp only at q;split at q
         .rename_i v U;refine fin v ?_ q;unfold loadVar;simp only[Sem.run_bind,ZH8 Z,I,Result.andThen_ok,Wb,WR];rw[run_load,ZBu Y,show cs.toArray[0]?=some v by simpa using U]
         .exact q.elim
      .exact q.elim
     ·rename_i M D;have x:=R.slot t;rw[D]at x;simp only[ZDV]at x;split at q
      ·rename_i c hc;cases O:ZAz P c ty with
       | false=>rw[O]at q;exact q.elim
       | true=>
         rw[O]at q;obtain⟨y,hy,q⟩:=q;obtain⟨vs,E,G⟩:=V _ q;refine⟨c.enc y::vs,E,?_⟩;have:a.tmps.getD t undef=.pointer (some M):=by simp[x]
         rw[VX];dsimp only;rw[Sem.run_bind,Sem.run_bind,this];rw[show (asAddr (Value.pointer (some M)))=pure M from rfl];simp only[Sem.run_pure,Result.andThen_ok,ZON X O (ZVF R.hle hy),Sem.run_bind,G]
      .exact q.elim
     .exact q.elim
theorem ZC8(G:ZGz P A){Q:rc.T->Hp->Prop}(R:Rel A N bx env a h fr w0 w)(M:ZYY A P fn rc Q env h):
 ∃ r,(results fn a.tmps).run P w=.ok (rc.enc r) w/\Q r h:=by
 obtain⟨vs,E,U⟩:=ZUj G R _ _ M;split at E
 .rename_i r q;refine⟨r,?_,E⟩;rw[rc.law _ _ q];have O:(fn.results.mapM (λ|.tmp t=>pure (a.tmps.getD t undef)|.cell c t=>do loadVar t (<-asAddr (a.tmps.getD c undef)):ResultVar->Sem Value)).run P w=.ok vs.toArray w:=by
   have:fn.results=fn.results.toList.toArray:=by simp
   rw[this,List.mapM_toArray,Sem.run_map,U];rfl
  unfold results;rw[Sem.run_bind];have D:∀ f:ResultVar->Sem Value,f=(λ|.tmp t=>pure (a.tmps.getD t undef)|.cell c t=>do loadVar t (<-asAddr (a.tmps.getD c undef)):ResultVar->Sem Value)->(fn.results.mapM f).run P w=.ok vs.toArray w:=λf I=>I▸O;rw[D _ (by funext x;cases x<;>rfl)];simp only[Result.andThen_ok,Sem.run_pure];congr 1;have y:∀ vs:List Value,(if h:vs.toArray.size=1 then vs.toArray[0] else Value.tuple vs.toArray)=ZKd vs:=by intro vs;rcases vs with _|⟨v,_|⟨u,l⟩⟩<;>simp[ZKd]
  exact y vs
 .exact E.elim
theorem ZF7(E:args.length<=N)(x:A.defs=[])(y:h.le w)(r:fr.le w)(dj:h.dj fr):
 Rel A N (λ_=>0) (ZW9 args) {tmps:=args.toArray++Array.replicate (N-args.toArray.size) undef,defers:=[]} h fr w w:=by
 refine⟨by simp;omega,x.symm,y,r,dj,ZGj.refl w,?_,?_,?_⟩
 ·intro s;unfold ZW9;cases q:args[s]? with
  | none=>trivial
  | some v=>
    have:=(Xi.1 q).1;simp only[ZDV];rw[VB (by simpa using this)];simpa using q
 .intro s cs q;unfold ZW9 at q;split at q<;>cases q
 .intro s t cs D q;unfold ZW9 at q;split at q<;>cases q
variable {an:An}
theorem ZY9(U:ZGz P A)(I:P.follows .mixedOrders=true){Q:rc.T->Hp->Prop}(x:fnD A P f an rc args h Q):
 ZHn P f args.toArray h λv h'=>∃ r,v=rc.enc r/\Q r h':=by
 unfold fnD at x;split at x
 ·rename_i fn y X;split at x
  ·rename_i c hc;cases G:Nat.ble args.length fn.ntmps with
   | false=>rw[G]at x;exact x.elim
   | true=>
     rw[G]at x;have G:=Wi G;intro w fr Y E dj;have R:=ZF7 (A:=A) G y Y E dj;refine calls_of_wp X hc (wp_mono (ZD0 U I c an _ _ _ h w _ R x) ?_);intro e a' w' D;cases e with
     | normal=>
       obtain⟨bx,env,h',q,Z⟩:=D;obtain⟨r,M,O⟩:=ZC8 U q Z;exact⟨q.defers.trans y,_,M,_,h',rfl,⟨r,rfl,O⟩,q.hle,q.frle,q.dj,q.same⟩
     | ret=>
       obtain⟨bx,env,h',q,Z⟩:=D;obtain⟨r,M,O⟩:=ZC8 U q Z;exact⟨q.defers.trans y,_,M,_,h',rfl,⟨r,rfl,O⟩,q.hle,q.frle,q.dj,q.same⟩
     | exit id=>obtain⟨_,_,_,_,V⟩:=D;exact V.elim
     | goto l=>exact D.elim
     | panic c=>obtain⟨_,_,_,_,_,_,V⟩:=D;exact V.elim
     | outgrown=>exact D.elim
  .exact x.elim
 .exact x.elim
theorem ZYV(r:ZGz P A)(q:P.follows .mixedOrders=true){Q:rc.T->Hp->Prop}(e:fnD A P f an rc args h Q=F)(x:F):ZA P f args rc h Q:=
 ZY9 r q (e.mpr x)
theorem ZOq(V:ZGz P A)(I:P.follows .mixedOrders=true){Q:rc.T->Hp->Prop}{S:Value->Hp->Prop}(y:fnX A P f an rc args h Q S):
 ZE5 P f args rc h Q S:=by
 unfold fnX at y;split at y
 ·rename_i fn x X;split at y
  ·rename_i c Z;cases G:Nat.ble args.length fn.ntmps with
   | false=>rw[G]at y;exact y.elim
   | true=>
     rw[G]at y;have G:=Wi G;intro w fr Y E dj;have R:=ZF7 (A:=A) G x Y E dj;refine calls_of_wp X Z (wp_mono (ZD0 V I c an _ _ _ h w _ R y) ?_);intro e a' w' D;cases e with
     | normal=>
       obtain⟨bx,env,h',q,M⟩:=D;obtain⟨r,O,U⟩:=ZC8 V q M;exact⟨q.defers.trans x,_,O,_,h',.inl ⟨rfl,r,rfl,U⟩,q.hle,q.frle,q.dj,q.same⟩
     | ret=>
       obtain⟨bx,env,h',q,M⟩:=D;obtain⟨r,O,U⟩:=ZC8 V q M;exact⟨q.defers.trans x,_,O,_,h',.inl ⟨rfl,r,rfl,U⟩,q.hle,q.frle,q.dj,q.same⟩
     | exit id=>obtain⟨_,_,_,_,hf⟩:=D;exact hf.elim
     | goto l=>exact D.elim
     | panic c=>
       obtain⟨v,rfl,bx,env,h',q,M⟩:=D;exact⟨q.defers.trans x,_,h',.inr ⟨rfl,M⟩,q.hle,q.frle,q.dj,q.same⟩
     | outgrown=>exact D.elim
  .exact y.elim
 .exact y.elim
def ZSZ(A:Ann)(P:Program)(fn:Func)(rc:Cdc)(Q:rc.T->Hp->Prop)(g:FuncId)(args:List Value):Option Value->Env->Hp->Prop:=
 λo env h=>ZB0 P g args o h λh'=>ZYY A P fn rc Q env h'
def ZHh(A:Ann)(d:Deferred):Ann:={A with defs:=[d]}
def Zbh(A:Ann)(P:Program)(f:FuncId)(an:An)(rc:Cdc)(args:List Value)(h:Hp)(Q:rc.T->Hp->Prop):Prop:=
 match A.defs,P.funcs[f]? with
 | [],some fn=>match fn.body with
   | some (.seq (.region _ ops0 false) (.seq (.region _ ops1 false) c))=>bif Nat.ble args.length fn.ntmps&&Nat.beq ops1.size 2 then
      ZHy A P fn.ntmps ops0 (ZCi ops0.size) (ZW9 args) h λenv h=>match ops1[0]?,ops1[1]? with
          | some om,some od=>ZAi A P fn.ntmps ops1 om env h λenv h=>match od.op,od.guard,od.dst with
            | .defer cl,none,none=>match cl.callee,cl.args.toList with
              | .value x,[]=>match look A env x with
                | .v (.func (.func g) first captured)=>match P.funcs[g]? with
                  | some gn=>match gn.body with
                    | some _=>ZAP (ZHh A ⟨.fn (.func g) captured,first⟩) P fn.ntmps c an env h
                       {n:=ZSZ A P fn rc Q g (first.toList++captured.toList) none,x:=λ_ _ _=>False,r:=ZSZ A P fn rc Q g (first.toList++captured.toList)}
                    | none=>False
                  | none=>False
                | _=>False
              | _,_=>False
            | _,_,_=>False
          | _,_=>False
     else False
   | _=>False
 | _,_=>False
theorem ZSd(q:ZGz P A):ZGz P (ZHh A d):=⟨q.good,q.eqs,q.dep,q.noNG,q.formed⟩
theorem ZVd(R:Rel A N bx env a h fr w0 w)(q:A.defs=[]):Rel (ZHh A d) N bx env {a with defers:=d::a.defers} h fr w0 w:=
 ⟨R.size,by rw[R.defers,q];rfl,R.hle,R.frle,R.dj,R.same,R.slot,R.prom,R.inj⟩
theorem ZNh(R:Rel (ZHh A d) N bx env a h fr w0 w)(q:A.defs=[]):Rel A N bx env {a with defers:=[]} h fr w0 w:=
 ⟨R.size,q.symm,R.hle,R.frle,R.dj,R.same,R.slot,R.prom,R.inj⟩
theorem ZRV(r:ZGz P A){id:Nat}(R:Rel A N bx env a h fr w0 w)(q:ZHy A P N ops (ZCi ops.size) env h K)(x:∀ a w,St A N fr w0 K a w->Q .normal a w):(Code.region id ops false).wp P Q a w:=by
 have:=ZMB (N:=N) r (ZCi ops.size) R q;rw[show (ZCi ops.size).map Prod.fst=List.range ops.size by simp[ZCi,Function.comp_def]]at this;intro b k cs;obtain⟨e,a',w',D,y⟩:=ZDl (Q:=Q) this (λa w q=>x a w q) b k cs;exact⟨e,a',w',D,.of_steps (.one step_region) y⟩
theorem ZQZ{b:Frame}{k:List Item}{cs:List Frame}(x:ops[i]?=some o)(y:o.guard=none)(q:o.dst=none)(D:(execOp a.eval o).run P w=.ok (.defer d) w):
 step P (lone (b.at a (.inRegion ops (i::rest)::k)) cs w)=.next (lone (b.at {a with defers:=d::a.defers} (.inRegion ops rest::k)) cs w):=by
 have E:Region.wanted o (yielded ops a.tmps)=true:=by simp[Region.wanted,y]
 have r:=stepG_op (P:=P) (b:=b) (k:=k) (cs:=cs) (w:=w) (rest:=rest) x E;refine step_lone_go ?_;have:({b.at a (.inRegion ops (i::rest)::k)with defers:=d::a.defers}:Frame).finish undef=
  b.at ({a with defers:=d::a.defers}.put o.dst undef) (.inRegion ops rest::k):=by
  have:=Frame.finish_at b {a with defers:=d::a.defers} ops i rest k undef
  rw[x]at this;exact this
 rw[q]at this;rw[r];simp only[stepG.apply,Sem.runT_eq,D,GStep.bare_after];exact congrArg (λfr=>GStep.go {frame:=fr,callers:=cs,status:=.running,dying:=none} w) this
variable {o:Option Value}
theorem ZKN(Y:ZGz P A)(I:A.defs=[]){Q:rc.T->Hp->Prop}(D:P.funcs[g]?=some gn)(U:gn.body=some gb)(X:u=match o with|none=>.returning|some v=>.panicking [{v,recovered:=false}])(R:Rel (ZHh A ⟨.fn (.func g) captured,first⟩) N bx env a h fr w0 w)(Z:ZSZ A P fn rc Q g (first.toList++captured.toList) o env h):
 Leaves P fn a.tmps (λe w'=>∃ v h',e=.returned v/\(∃ r,v=rc.enc r/\Q r h')/\h'.le w'/\fr.le w'/\h'.dj fr/\ZGj w0 w') a.defers u w:=by
 rw[R.defers];have V:=Y.noNG g gn D;refine leaves_cons (f:=g) (args:=(first.toList++captured.toList).toArray) (by subst X;cases o<;>simp) ?_ ?_
 .simp only[invoke,callFunc,Sem.run_bind,run_program,Result.andThen_ok,D,V,Wb,WR,U,Vn];congr 2;simp
 ·have q:=ZNh R I;have fin:∀ (x:FrameMode),settle x=.returning->CallsD P g (first.toList++captured.toList).toArray u w (λe u2 w'=>∃ v h',e=.returned v/\u2=x/\ZYY A P fn rc Q env h'/\h'.le w'/\((ZFJ bx env w).un fr).le w'/\h'.dj ((ZFJ bx env w).un fr)/\ZGj w w')->
   CallsD P g (first.toList++captured.toList).toArray u w fun
    | .returned _,x,w'=>Leaves P fn a.tmps (λe w'=>∃ v h',e=.returned v/\(∃ r,v=rc.enc r/\Q r h')/\h'.le w'/\fr.le w'/\h'.dj fr/\ZGj w0 w') [] (settle x) w'
    | .panicked chain,x,w'=>Leaves P fn a.tmps (λe w'=>∃ v h',e=.returned v/\(∃ r,v=rc.enc r/\Q r h')/\h'.le w'/\fr.le w'/\h'.dj fr/\ZGj w0 w') [] (raised x chain) w'
    | .outgrown,_,w'=>(λe w'=>∃ v h',e=Ending.returned v/\(∃ r,v=rc.enc r/\Q r h')/\h'.le w'/\fr.le w'/\h'.dj fr/\ZGj w0 w') .outgrown w':=by
   intro x hs hc
   refine hc.mono ?_
   rintro e u2 w' ⟨v,h',rfl,rfl,G,E,O,M,sm⟩
   have y:=q.called E O M sm
   obtain⟨r,h1,h2⟩:=ZC8 Y y G
   dsimp only
   rw[hs]
   exact⟨_,h1,_,h',rfl,⟨r,rfl,h2⟩,y.hle,y.frle,y.dj,y.same⟩
  cases o with
  | none=>
    subst X;exact fin .returning rfl (Z w _ q.hle (Hp.un_le q.boxes_le q.frle) (Hp.dj_un q.boxes_dj q.dj))
  | some v=>
    subst X;exact fin (.panicking [{v,recovered:=true}]) rfl (Z w _ q.hle (Hp.un_le q.boxes_le q.frle) (Hp.dj_un q.boxes_dj q.dj))
theorem ZKm(Y:ZGz P A)(hmix:P.follows .mixedOrders=true){Q:rc.T->Hp->Prop}(E:Zbh A P f an rc args h Q):ZA P f args rc h Q:=by
 unfold Zbh at E;split at E
 ·rename_i fn y hfn;split at E
  ·rename_i id0 ops0 id1 D c O;cases hb:(Nat.ble args.length fn.ntmps&&Nat.beq D.size 2) with
   | false=>rw[hb]at E;exact E.elim
   | true=>
     rw[hb]at E;simp only[XL]at E;simp only[Xf]at hb;have hb1:=Wi hb.1;have hb2:D.size=2:=ZFc.1 hb.2;intro w fr hle frle dj;have R:=ZF7 (A:=A) hb1 y hle frle dj;refine calls_of_wp_defers hfn O (wp_seq (ZRV Y R E λa1 w1 hs1=>?_));obtain⟨bx1,env1,h1,R1,X⟩:=hs1;show (Code.seq _ _).wp P _ a1 w1;split at X
     ·rename_i om od hom hod;refine wp_seq ?_;intro b k cs;have hr2:List.range D.size=[0,1]:=by rw[hb2];rfl
      obtain⟨a2,w2,⟨bx2,env2,h2,R2,q⟩,hs2⟩:=ZEo Y R1 hom X b [1] k cs;obtain⟨dst,op,type,pos,after,guard⟩:=od;dsimp only at q;split at q
      ·rename_i cl;split at q
       ·rename_i x I r;split at q
        ·rename_i g first captured hl
         split at q
         ·rename_i gn V;split at q
          .rename_i gb U;obtain⟨callee,M,cats⟩:=cl;dsimp only at I r;subst I;have G:M=#[]:=by simpa using r
           subst G;have hrun:(execOp a2.eval ⟨none,.defer ⟨.value x,#[],cats⟩,type,pos,after,none⟩).run P w2=.ok (.defer ⟨.fn (.func g) captured,first⟩) w2:=by simp[execOp,resolve,Deferred.ofValue,R2.eval_v hl]
           have hs3:=ZQZ (P:=P) (b:=b) (k:=k) (cs:=cs) (rest:=[]) hod rfl rfl hrun;have R3:=ZVd (d:=⟨.fn (.func g) captured,first⟩) R2 y;refine⟨.normal,{a2 with defers:=⟨.fn (.func g) captured,first⟩::a2.defers},w2,?_,.of_steps (.one step_region) ?_⟩
           .refine wp_mono (ZD0 (ZSd Y) hmix c an _ _ _ h2 w2 _ R3 q) ?_;intro e a4 w4 Z;cases e with
            | normal=>obtain⟨bx,env,h',R',hr⟩:=Z;exact ZKN (fn:=fn) (rc:=rc) (Q:=Q) (o:=none) Y y V U rfl R' hr
            | ret=>obtain⟨bx,env,h',R',hr⟩:=Z;exact ZKN (fn:=fn) (rc:=rc) (Q:=Q) (o:=none) Y y V U rfl R' hr
            | exit id=>obtain⟨_,_,_,_,hf⟩:=Z;exact hf.elim
            | goto l=>exact Z.elim
            | panic ch=>obtain⟨v,rfl,bx,env,h',R',hr⟩:=Z;exact ZKN (fn:=fn) (rc:=rc) (Q:=Q) (o:=some v) Y y V U rfl R' hr
            | outgrown=>exact Z.elim
           .rw [hr2];exact Steps.trans hs2 (.head hs3 (.one step_region_end))
          .exact q.elim
         .exact q.elim
        .exact q.elim
       .exact q.elim
      .exact q.elim
     .exact X.elim
  .exact E.elim
 .exact E.elim
def ZJ6:Option Value->Value
 | none=>.nilIface
 | some v=>v
def ZPg(A:Ann)(P:Program)(f:FuncId)(an:An)(args:List Value)(o:Option Value)(h:Hp)(K:Hp->Prop):Prop:=
 match A.defs,P.funcs[f]? with
 | [],some fn=>match fn.results.toList,fn.body with
   | [],some (.seq (.region _ ops false) c)=>match ops.toList with
     | [⟨some d0,.call ⟨.builtin .recover,⟨[]⟩,_⟩,_,_,_,none⟩,⟨some d1,.assign (.tmp d2),_,_,_,none⟩]=>
       bif Nat.ble args.length fn.ntmps&&(Nat.ble (d0+1) fn.ntmps&&(Nat.ble (d1+1) fn.ntmps&&Nat.beq d2 d0)) then
         ZAP A P fn.ntmps c an (put A (put A (ZW9 args) (some d0) (.val (ZJ6 o))) (some d1) (.val (ZJ6 o))) h {n:=λ_ h=>K h,x:=λ_ _ _=>False,r:=Zb4 (λ_ h=>K h) λ_ _ _=>False}
       else False
     | _=>False
   | _,_=>False
 | _,_=>False
variable {K:Hp->Prop}
theorem ZEh(hP:ZGz P A)(hmix:P.follows .mixedOrders=true)(y:ZPg A P f an args o h K):ZB0 P f args o h K:=by
 unfold ZPg at y;split at y
 ·rename_i fn ab hfn;split at y
  ·rename_i id ops c hres Z;split at y
   ·rename_i d0 ats t0 p0 af0 M q t1 p1 E hops;cases hb:(Nat.ble args.length fn.ntmps&&(Nat.ble (d0+1) fn.ntmps&&(Nat.ble (M+1) fn.ntmps&&Nat.beq q d0))) with
    | false=>rw[hb]at y;exact y.elim
    | true=>
      rw[hb]at y;simp only[XL]at y;simp only[Xf]at hb;obtain⟨U,V,X,Y⟩:=hb;have U:=Wi U;have V:=Wi V;have X:=Wi X;have Y:q=d0:=ZFc.1 Y;subst Y;have ac:ops=#[⟨some q,.call ⟨.builtin .recover,#[],ats⟩,t0,p0,af0,none⟩,⟨some M,.assign (.tmp q),t1,p1,E,none⟩]:=by apply WM;exact hops
      subst ac
      have key:∀ (u O:FrameMode),(∀ (I:Frame) (cs:List Frame),I.mode=u->(match recoverD (I::cs) with|some (v,cs')=>v=ZJ6 o/\cs'={I with mode:=O}::cs|none=>ZJ6 o=.nilIface/\O=u))->
       ZZQ P f args.toArray u O h K:=by
       intro u O x w fr hle frle dj
       have R:=ZF7 (A:=A) U ab hle frle dj
       refine callsD_of_wpS hfn Z λI cs hu=>wpS_seq (wpS_region ?_)
       have R1:=(R.put hP.good (d:=some q) (λk y=>by cases y;exact V) (ev:=.val (ZJ6 o)) (v:=ZJ6 o) rfl)
       have R2:=(R1.put hP.good (d:=some M) (λk y=>by cases y;exact X) (ev:=.val (ZJ6 o)) (v:=ZJ6 o) rfl)
       have G:((({tmps:=args.toArray++Array.replicate (fn.ntmps-args.toArray.size) undef,defers:=[]}:Act).put (some q) (ZJ6 o)).eval (.tmp q))=ZJ6 o:=by have:=ZDF ({tmps:=args.toArray++Array.replicate (fn.ntmps-args.toArray.size) undef,defers:=[]}:Act) (d:=q) (ZJ6 o) (by rw[R.size];omega);show (Array.getD _ _ _)=_;rw[Array.getD_eq_getD_getElem?,this];rfl
       have fin:∀ cs',cs'=({I with mode:=O}:Frame)::cs->c.wpS P (bodyPostS P fn I cs λe u2 w'=>∃ v h',e=.returned v/\u2=O/\K h'/\h'.le w'/\fr.le w'/\h'.dj fr/\ZGj w w')
        ((({tmps:=args.toArray++Array.replicate (fn.ntmps-args.toArray.size) undef,defers:=[]}:Act).put (some q) (ZJ6 o)).put (some M) (ZJ6 o)) cs' w:=by
        rintro cs' rfl
        refine wpS_of_wp (wp_mono (ZD0 hP hmix c an _ _ _ h w _ R2 y) ?_)
        have r:∀ (t:Array Value) (w:World),(results fn t).run P w=.ok (.tuple #[]) w:=by
         intro t w;have:fn.results=#[]:=by apply WM;exact hres
         simp[results,this]
        intro e a' w' hq
        cases e with
        | normal=>obtain⟨bx,env,h',D,hr⟩:=hq;exact⟨D.defers.trans ab,O,rfl,_,r _ _,_,h',rfl,rfl,hr,D.hle,D.frle,D.dj,D.same⟩
        | ret=>obtain⟨bx,env,h',D,hr⟩:=hq;exact⟨D.defers.trans ab,O,rfl,_,r _ _,_,h',rfl,rfl,hr,D.hle,D.frle,D.dj,D.same⟩
        | exit id=>obtain⟨_,_,_,_,hf⟩:=hq;exact hf.elim
        | goto l=>exact hq.elim
        | panic ch=>obtain⟨_,_,_,_,_,_,hf⟩:=hq;exact hf.elim
        | outgrown=>exact hq.elim
       have x:=x I cs hu
       have hrun1:∀ (a:Act),(execOp a.eval ⟨some q,.call ⟨.builtin .recover,#[],ats⟩,t0,p0,af0,none⟩).run P w=.ok .recover w:=by intro a;rfl
       show wpOpsS P _ _ [0,1] _ _ _
       simp only[wpOpsS,List.getElem?_toArray,YQ,Yh,Region.wanted,Yp,hrun1]
       split at x
       .rename_i v cs' hr
        obtain⟨rfl,rfl⟩:=x
        rw[hr]
        dsimp only
        rw[show (execOp (Act.eval (({tmps:=args.toArray++Array.replicate (fn.ntmps-args.toArray.size) undef,defers:=[]}:Act).put (some q) (ZJ6 o))) ⟨some M,.assign (.tmp q),t1,p1,E,none⟩).run P w=.ok (.value (ZJ6 o)) w by
         rw[show execOp (Act.eval (({tmps:=args.toArray++Array.replicate (fn.ntmps-args.toArray.size) undef,defers:=[]}:Act).put (some q) (ZJ6 o))) ⟨some M,.assign (.tmp q),t1,p1,E,none⟩=pure (.value (Act.eval _ (.tmp q))) from rfl,G];rfl]
        exact fin _ rfl
       .rename_i hr
        obtain⟨hn,rfl⟩:=x
        rw[hr]
        dsimp only
        rw[<-hn]
        rw[show (execOp (Act.eval (({tmps:=args.toArray++Array.replicate (fn.ntmps-args.toArray.size) undef,defers:=[]}:Act).put (some q) (ZJ6 o))) ⟨some M,.assign (.tmp q),t1,p1,E,none⟩).run P w=.ok (.value (ZJ6 o)) w by
         rw[show execOp (Act.eval (({tmps:=args.toArray++Array.replicate (fn.ntmps-args.toArray.size) undef,defers:=[]}:Act).put (some q) (ZJ6 o))) ⟨some M,.assign (.tmp q),t1,p1,E,none⟩=pure (.value (Act.eval _ (.tmp q))) from rfl,G];rfl]
        exact fin _ (by subst hu;rfl)
      cases o with
      | none=>exact key _ _ λI cs hu=>by simp only[recoverD,hu];exact⟨rfl,trivial⟩
      | some v=>exact key _ _ λI cs hu=>by simp only[recoverD,hu];exact⟨rfl,trivial⟩
   .exact y.elim
  .exact y.elim
 .exact y.elim
structure Sl where
 a:Option Addr
 len:Nat
 cap:Nat
inductive Lk where
 | i (k:IntKind)
 | b
 | s
 | p
 | sl
 | c
abbrev Lk.T:Lk->Type
 | .i _=>Int
 | .b=>Bool
 | .s=>ByteArray
 | .p=>Option Addr
 | .sl=>Sl
 | .c=>Option Nat
def Lk.enc:(l:Lk)->l.T->Value
 | .i k,x=>.int k x
 | .b,x=>.bool x
 | .s,x=>.string x
 | .p,x=>.pointer x
 | .sl,x=>.slice x.a x.len x.cap
 | .c,x=>.chan x
def dI(k:IntKind):Value->Option Int
 | .int j n=>match decide (j=k) with
   | true=>some n
   | false=>none
 | _=>none
def dB:Value->Option Bool
 | .bool b=>some b
 | _=>none
def dS:Value->Option ByteArray
 | .string s=>some s
 | _=>none
def dP:Value->Option (Option Addr)
 | .pointer p=>some p
 | _=>none
def dSl:Value->Option Sl
 | .slice a l c=>some ⟨a,l,c⟩
 | _=>none
def dC:Value->Option (Option Nat)
 | .chan c=>some c
 | _=>none
def Lk.dec:(l:Lk)->Value->Option l.T
 | .i k,v=>dI k v
 | .b,v=>dB v
 | .s,v=>dS v
 | .p,v=>dP v
 | .sl,v=>dSl v
 | .c,v=>dC v
theorem Lk.law(l:Lk)(v:Value)(x:l.T)(h:l.dec v=some x):l.enc x=v:=by
 cases l;case i k=>
  simp only[Lk.dec]at h
  unfold dI at h
  split at h
  .split at h
   .rename_i q;have:=Ww q;subst this;cases h;rfl
   .cases h
  .cases h
 case b=>simp only[Lk.dec]at h;unfold dB at h;split at h<;>cases h;rfl
 case s=>simp only[Lk.dec]at h;unfold dS at h;split at h<;>cases h;rfl
 case p=>simp only[Lk.dec]at h;unfold dP at h;split at h<;>cases h;rfl
 case sl=>simp only[Lk.dec]at h;unfold dSl at h;split at h<;>cases h;rfl
 case c=>simp only[Lk.dec]at h;unfold dC at h;split at h<;>cases h;rfl
theorem Lk.ecd(l:Lk)(x:l.T):l.dec (l.enc x)=some x:=by
 cases l;case i k=>simp only[Lk.dec,Lk.enc,dI,decide_true]
 all_goals rfl
theorem Lk.one(l:Lk)(x:l.T):ZGZ (l.enc x)=true:=by cases l<;>rfl
abbrev ZPT(l:Lk):Cdc where
 T:=l.T
 enc:=l.enc
 dec:=l.dec
 agg:=false
 n:=1
 law:=l.law
 ecd:=l.ecd
 mem:=true
 form:=λ_ x=>⟨l.one x,rfl⟩
abbrev cI(k:IntKind):Cdc:=ZPT (.i k)
abbrev cB:Cdc:=ZPT .b
abbrev cS:Cdc:=ZPT .s
abbrev cP:Cdc:=ZPT .p
abbrev cSl:Cdc:=ZPT .sl
abbrev cC:Cdc:=ZPT .c
structure FnV where
 g:Nat
 first:Array Value
 cap:Array Value
abbrev cF:Cdc where
 T:=FnV
 enc x:=.func (.func x.g) x.first x.cap
 dec v:=match v with
  | .func (.func g) a b=>some ⟨g,a,b⟩
  | _=>none
 agg:=false
 n:=1
 law:=by
  intro v x h;split at h
  .cases h;rfl
  .cases h
 ecd:=λ_=>rfl
 mem:=true
 form:=λ_ _=>⟨rfl,rfl⟩
abbrev cM:Cdc where
 T:=Option Nat
 enc x:=.map x
 dec v:=match v with
  | .map x=>some x
  | _=>none
 agg:=false
 n:=1
 law:=by
  intro v x h;split at h
  .cases h;rfl
  .cases h
 ecd:=λ_=>rfl
 mem:=true
 form:=λ_ _=>⟨rfl,rfl⟩
abbrev LT:List Lk->Type
 | []=>Unit
 | [x]=>x.T
 | x::y::l=>x.T×LT (y::l)
def ZKf:(l:List Lk)->LT l->List Value
 | [],_=>[]
 | [x],v=>[x.enc v]
 | x::y::l,v=>x.enc v.1::ZKf (y::l) v.2
def ZZi:(l:List Lk)->List Value->Option (LT l)
 | [],vs=>match vs with
   | []=>some ()
   | _::_=>none
 | [x],vs=>match vs with
   | [v]=>x.dec v
   | _=>none
 | x::y::l,vs=>match vs with
   | v::vs=>match x.dec v with
     | some z=>match ZZi (y::l) vs with
       | some r=>some (z,r)
       | none=>none
     | none=>none
   | []=>none
theorem ZUz:∀ (l:List Lk) (vs:List Value) (x:LT l),ZZi l vs=some x->ZKf l x=vs:=by
 intro l;induction l with
 | nil=>intro vs x h;cases vs<;>first|rfl|cases h
 | cons t l D=>
   cases l with
   | nil=>
     intro vs x h;match vs,h with
     | [v],h=>exact congrArg (λz=>[z]) (t.law v x h)
   | cons u l=>
     intro vs x h;match vs,h with
     | v::vs,h=>
       unfold ZZi at h;dsimp only at h;split at h
       .rename_i z y;split at h
        .rename_i r q;cases h;show t.enc z::ZKf (u::l) r=_;rw[t.law v z y,D vs r q]
        .cases h
       .cases h
theorem ZWn:∀ (l:List Lk) (x:LT l),ZZi l (ZKf l x)=some x:=by
 intro l;induction l with
 | nil=>intro x;rfl
 | cons t l y=>
   cases l with
   | nil=>intro x;exact t.ecd x
   | cons u l=>
     intro x;have q:=t.ecd x.1;have r:=y x.2;unfold ZKf ZZi;dsimp only;rw[q];dsimp only;rw[r]
theorem ZOD:∀ (l:List Lk) (x:LT l),(ZKf l x).length=l.length:=by
 intro l;induction l with
 | nil=>intro x;rfl
 | cons t l q=>
   cases l with
   | nil=>intro x;rfl
   | cons u l=>intro x;exact congrArg (·+1) (q x.2)
theorem ZV9:∀ (l:List Lk) (x:LT l),∀ v∈ZKf l x,ZGZ v=true:=by
 intro l;induction l with
 | nil=>intro x v q;cases q
 | cons t l r=>
   cases l with
   | nil=>intro x v q;rw[show ZKf [t] x=[t.enc x] from rfl,Xl]at q;subst q;exact t.one x
   | cons u l=>
     intro x v q;rw[show ZKf (t::u::l) x=t.enc x.1::ZKf (u::l) x.2 from rfl,Xm]at q;rcases q with rfl|q
     .exact t.one _
     .exact r x.2 v q
def Zbq{S:Type}(l:List Lk)(to:LT l->S):Value->Option S
 | .agg a=>match ZZi l a.toList with
   | some x=>some (to x)
   | none=>none
 | _=>none
abbrev ZDI(S:Type)(l:List Lk)(to:LT l->S)(of:S->LT l)(h1:∀ x,of (to x)=x)(h2:∀ s,to (of s)=s):Cdc where
 T:=S
 enc s:=.agg (ZKf l (of s)).toArray
 dec:=Zbq l to
 agg:=true
 n:=l.length
 law:=by
  intro v x h;unfold Zbq at h;split at h
  .split at h
   .rename_i y hy;cases h;rw[h1,ZUz l _ y hy]
   .cases h
  .cases h
 ecd:=by intro x;simp only[Zbq,ZWn,h2]
 mem:=true
 form:=λ_ x=>⟨_,rfl,ZOD l _,ZV9 l _⟩
abbrev TT:List Cdc->Type
 | []=>Unit
 | [x]=>x.T
 | x::y::l=>x.T×TT (y::l)
def ZZg:(l:List Cdc)->TT l->List Value
 | [],_=>[]
 | [x],v=>[x.enc v]
 | x::y::l,v=>x.enc v.1::ZZg (y::l) v.2
def ZZj:(l:List Cdc)->List Value->Option (TT l)
 | [],vs=>match vs with
   | []=>some ()
   | _::_=>none
 | [x],vs=>match vs with
   | [v]=>x.dec v
   | _=>none
 | x::y::l,vs=>match vs with
   | v::vs=>match x.dec v with
     | some z=>match ZZj (y::l) vs with
       | some r=>some (z,r)
       | none=>none
     | none=>none
   | []=>none
theorem ZWE:∀ (l:List Cdc) (vs:List Value) (x:TT l),ZZj l vs=some x->ZZg l x=vs:=by
 intro l;induction l with
 | nil=>intro vs x h;cases vs<;>first|rfl|cases h
 | cons t l D=>
   cases l with
   | nil=>
     intro vs x h;match vs,h with
     | [v],h=>exact congrArg (λz=>[z]) (t.law v x h)
   | cons u l=>
     intro vs x h;match vs,h with
     | v::vs,h=>
       unfold ZZj at h;dsimp only at h;split at h
       .rename_i z y;split at h
        .rename_i r q;cases h;show t.enc z::ZZg (u::l) r=_;rw[t.law v z y,D vs r q]
        .cases h
       .cases h
theorem ZWg:∀ (l:List Cdc) (x:TT l),ZZj l (ZZg l x)=some x:=by
 intro l;induction l with
 | nil=>intro x;rfl
 | cons t l y=>
   cases l with
   | nil=>intro x;exact t.ecd x
   | cons u l=>
     intro x;have q:=t.ecd x.1;have r:=y x.2;unfold ZZg ZZj;dsimp only;rw[q];dsimp only;rw[r]
def ZSY(l:List Cdc):Value->Option (TT l)
 | .tuple a=>ZZj l a.toList
 | _=>none
abbrev ZV(l:List Cdc):Cdc where
 T:=TT l
 enc x:=.tuple (ZZg l x).toArray
 dec:=ZSY l
 agg:=false
 n:=0
 law:=by
  intro v x h;unfold ZSY at h;split at h
  .rw [ZWE l _ x h]
  .cases h
 ecd:=by intro x;simp only[ZSY,ZWg]
 mem:=false
 form:=λh=>by cases h
def ZB8:List Nat->Nat->Bool
 | [],_=>false
 | x::l,n=>bif Nat.beq n x then true else ZB8 l n
theorem ZWZ:ZB8 l n=true->n∈l:=by
 induction l with
 | nil=>intro h;cases h
 | cons x l r=>
   intro h;unfold ZB8 at h;cases q:Nat.beq n x with
   | true=>rw[ZFc.1 q];exact WQ
   | false=>rw[q]at h;exact Xq _ (r h)
def ZNa(P:Program)(i:TypeInfo):Bool:=
 match i.desc with
 | .named _ u=>(P.info? u).isSome
 | _=>true
theorem ZMz{d:TypeDesc}{i:TypeInfo}(h:Made.reckon info d=some i):∀ n u,i.desc≠.named n u:=by
 intro n u q;unfold Made.reckon at h;cases d<;>dsimp only at h;case struct fs=>
  unfold Made.reckonStruct at h
  simp only[Vj,YL,WY]at h
  obtain⟨r,_,h⟩:=h
  split at h<;>(cases h;cases q)
 all_goals first|(cases h;done)|skip
 case pointer e=>
  cases D:info e with
  | none=>rw[D]at h;cases h
  | some x=>
    rw[D]at h;change (match x.desc with
     | .named _ _=>none
     | .struct fs=>if fs.any (·.embedded) then none else _
     | _=>_)=some i at h
    cases E:Made.spell x with
    | none=>simp only[E]at h;split at h<;>first|(cases h;done)|(split at h<;>cases h;done)
    | some y=>simp only[E]at h;split at h<;>first|(cases h;done)|(cases h;cases q;done)|(split at h<;>first|(cases h;done)|(cases h;cases q;done))
 case slice e=>
  simp only[Vj,YL,WY,Made.word]at h
  obtain⟨x,_,y,_,h⟩:=h
  cases h;cases q
 case map k e=>
  simp only[Vj,YL,WY,Made.word]at h
  obtain⟨x,_,y,_,z,_,v,_,h⟩:=h
  cases h;cases q
 case chan d e=>
  simp only[Vj,YL,WY,Made.word]at h
  obtain⟨x,_,y,_,h⟩:=h
  cases h;cases q
 case func ps rs v=>
  simp only[Vj,YL,WY,Made.word]at h
  obtain⟨x,_,h⟩:=h
  cases h;cases q
 case array n e=>
  simp only[Vj,YL,WY]at h
  obtain⟨x,_,y,_,h⟩:=h
  cases h;cases q
theorem ZNN{T:Tables}:∀ (f:Nat) {t:TypeId} {i:TypeInfo},¬t<T.types.size->Made.infoAt T f t=some i->∀ n u,i.desc≠.named n u:=by
 intro f;cases f with
 | zero=>intro t i _ h;cases h
 | succ f=>
   intro t i q h;unfold Made.infoAt at h;rw[Xd q]at h;simp only[WY]at h;obtain⟨d,_,h⟩:=h;exact ZMz h
def ZP2(P:Program):Bool:=
 P.types.toList.all (ZNa P)&&P.funcs.toList.all λfn=>!(fn.name == "runtime.NumGoroutine")
theorem ZUX(h:ZP2 P=true):ZXV P:=by
 intro t n D;simp only[ZP2,Xf,Wn]at h;unfold ZA3 at D;cases r:P.info? t with
 | none=>rw[r]at D;cases D
 | some i=>
   unfold Program.underlying;rw[r];cases y:i.desc with
   | named I u=>
     have q:ZNa P i=true:=by
      by_cases E:t<P.types.size
      .have:P.types[t]?=some i:=by unfold Tables.info? at r;rw[Xe E]at r;exact r
       exact h.1 i (Array.mem_toList_iff.2 (Array.mem_of_getElem? this))
      .unfold Tables.info? at r;rw[Xd E]at r;exact absurd y (ZNN _ E r _ _)
     unfold ZNa at q;rw[y]at q;dsimp only at q;obtain⟨j,G⟩:=Vg.1 q;refine⟨j.desc,?_⟩;obtain⟨x,_⟩:=i;cases y;simp[G]
   | _=>
     refine⟨i.desc,?_⟩;obtain⟨x,_⟩:=i;cases y;rfl
theorem ZZI(h:ZP2 P=true):ZcT P:=by intro g fn q;simp only[ZP2,Xf,Wn]at h;have:=h.2 fn (Array.mem_toList_iff.2 (Array.mem_of_getElem? q));simpa using this
def ZbI(A:Ann):Bool:=A.refs.all λx=>!A.isProm x.1
theorem ZNX:∀ {l:List (Nat×Nat)} {s t:Nat},ZKE l s=some t->(s,t)∈l:=by
 intro l;induction l with
 | nil=>intro s t h;cases h
 | cons x l r=>
   intro s t h;obtain⟨a,b⟩:=x;unfold ZKE at h;cases q:Nat.beq s a with
   | true=>rw[q]at h;simp only[XL,XT]at h;rw[ZFc.1 q,h];exact WQ
   | false=>rw[q]at h;exact Xq _ (r h)
theorem ZD5(q:ZP2 P=true)(r:Nat.ble 20 P.depth=true)(hl:l.all (ZU6 P 20)=true)(x:A.eqs=ZB8 l)(y:ZbI A=true):ZGz P A where
 good:=by intro s t h;have:=Wn.1 y _ (ZNX h);simpa using this
 eqs:=by intro t h;rw[x]at h;exact Wn.1 hl t (ZWZ h)
 dep:=Wi r
 noNG:=ZZI q
 formed:=ZUX q
def On(h:Hp)(l:List Hp):Prop:=l.Pairwise Hp.dj/\∀ c∈l,c.sub h
variable {l:List Hp}
theorem On.mem(o:On h l)(q:c∈l):c.sub h:=o.2 c q
theorem On.get(o:On h l)(q:l[i]?=some c):c.sub h:=o.2 c (Xn q)
theorem On.nil(h:Hp):On h []:=⟨YY,λ_ h=>by cases h⟩
theorem On.self(h:Hp):On h [h]:=⟨VG _ _,λc q=>by rw[Xl]at q;subst q;exact Hp.sub_refl _⟩
theorem On.perm(o:On h l)(p:l.Perm l'):On h l':=
 ⟨(p.pairwise_iff λr=>Hp.dj_symm r).1 o.1,λc q=>o.2 c (p.mem_iff.2 q)⟩
theorem On.sublist(o:On h l)(s:l'.Sublist l):On h l':=⟨o.1.sublist s,λc q=>o.2 c (s.subset q)⟩
theorem On.tail(o:On h (c::l)):On h l:=o.sublist (Xz c l)
variable {d:Hp}
theorem On.swap(o:On h (c::d::l)):On h (d::c::l):=o.perm (Xt d c l)
theorem On.rot3{a b:Hp}(o:On h (a::b::c::l)):On h (c::a::b::l):=
 o.perm ((XQ a (Xt c b l)).trans (Xt c a _))
theorem On.pull(o:On h l)(i:Nat)(q:l[i]?=some c):On h (c::l.eraseIdx i):=by
 have:l.Perm (c::l.eraseIdx i):=by
  induction l generalizing i with
  | nil=>cases q
  | cons x l r=>
    cases i with
    | zero=>simp at q;subst q;exact WO _
    | succ i=>
      simp only[Yh]at q;exact(XQ x (r (o.tail) i q)).trans (Xt c x _)
 exact o.perm this
theorem On.apart(o:On h (c::l))(q:d∈l):c.dj d:=(Wm.1 o.1).1 d q
theorem Hp.sub_dj(s:c'.sub c)(r:c.dj d):c'.dj d:=by
 intro b;rcases r b with e|e
 .left;cases q:c' b with
  | none=>rfl
  | some o=>rw[s _ _ q]at e;cases e
 .exact .inr e
theorem Hp.sub_trans{a b:Hp}(q:a.sub b)(r:b.sub c):a.sub c:=λ_ _ h=>r _ _ (q _ _ h)
theorem On.split{cs:List Hp}(o:On h (c::l))(r:On c cs):On h (cs++l):=by
 refine⟨YI.2 ⟨r.1,o.tail.1,λx q y D=>Hp.sub_dj (r.2 x q) (o.apart D)⟩,λx q=>?_⟩;rcases Xx.1 q with q|q
 .exact Hp.sub_trans (r.2 x q) (o.2 c (by simp))
 .exact o.2 x (by simp[q])
theorem Hp.sub_un_l(a b:Hp):a.sub (a.un b):=λk o h=>by simp[Hp.un,h]
theorem Hp.sub_un_r{a b:Hp}(d:a.dj b):b.sub (a.un b):=λk o h=>by
 rcases d k with e|e
 .simp [Hp.un,e,h]
 .rw [h]at e;cases e
def ZJx:List Hp->Hp
 | []=>Hp.emp
 | c::l=>c.un (ZJx l)
theorem On.joined:∀ {cs l:List Hp},On h (cs++l)->On h (ZJx cs::l)/\On (ZJx cs) cs:=by
 intro cs;induction cs with
 | nil=>
   intro l o;refine⟨⟨Wm.2 ⟨λd _ b=>.inl rfl,o.1⟩,λc D=>?_⟩,On.nil _⟩;rcases Xm.1 D with rfl|D
   .intro b o h;cases h
   .exact o.2 c D
 | cons c cs G=>
   intro l o;obtain⟨r,I⟩:=G o.tail;have E:c.dj (ZJx cs):=by
    have:∀ {cs':List Hp},(∀ d∈cs',c.dj d)->c.dj (ZJx cs'):=by
     intro cs';induction cs' with
     | nil=>intro _ b;exact .inr rfl
     | cons x cs' G=>intro M;exact Hp.dj_un (M x (by simp)) (G λd q=>M d (by simp[q]))
    exact this λd q=>o.apart (by simp[q])
   refine⟨⟨Wm.2 ⟨λd q=>Hp.un_dj (o.apart (by simp[q])) (r.apart q),r.tail.1⟩,λd q=>?_⟩,⟨Wm.2 ⟨λd q=>o.apart (by simp[q]),I.1⟩,λd q=>?_⟩⟩
   .rcases Xm.1 q with rfl|q
    .intro k ob y;unfold ZJx Hp.un at y;split at y
     .rename_i O e;cases y;exact o.2 c (by simp) _ _ e
     .exact r.2 (ZJx cs) (by simp) _ _ y
    .exact r.2 d (by simp[q])
   .rcases Xm.1 q with rfl|q
    .exact Hp.sub_un_l _ _
    .exact Hp.sub_trans (I.2 d q) (Hp.sub_un_r E)
theorem On.upd(o:On h (c::l)){ob:Obj}(D:c b=some ob)(y:Obj):On (h.upd b y) (c.upd b y::l):=by
 have x:∀ d∈l,d b=none:=λd x=>by
  rcases o.apart x b with e|e
  .rw [D]at e;cases e
  .exact e
 refine⟨Wm.2 ⟨λd r=>Hp.upd_dj (o.apart r) (x d r) y,o.tail.1⟩,λd E=>?_⟩;rcases Xm.1 E with rfl|hl
 .intro k ob q;unfold Hp.upd at q⊢;split at q
  .rename_i e;rw[Xe e];exact q
  .rename_i e;rw[Xd e];exact o.2 c (by simp) _ _ q
 .intro k ob q;unfold Hp.upd;by_cases e:k=b
  .subst e;rw[x d hl]at q;cases q
  .rw [Xd e];exact o.2 d (by simp[hl]) _ _ q
theorem On.new(o:On h l)(y:h b=none)(ob:Obj):On (h.upd b ob) (Hp.one b ob::l):=by
 have D:∀ d∈l,d b=none:=λd D=>by
  cases e:d b with
  | none=>rfl
  | some x=>rw[o.2 d D _ _ e]at y;cases y
 refine⟨Wm.2 ⟨λd q k=>?_,o.1⟩,λd q=>?_⟩
 .by_cases e:k=b
  .subst e;exact .inr (D d q)
  .left;simp[Hp.one,e]
 .rcases Xm.1 q with rfl|q
  .intro k E r;unfold Hp.one at r;split at r
   .rename_i e;subst e;simpa[Hp.upd]using r
   .cases r
  .exact Hp.sub_trans (o.2 d q) (Hp.sub_upd y ob)
def ob(b:Nat)(vs:List Value)(e:TypeId):Hp:=Hp.one b (.cells vs.toArray e (0,0))
theorem ZJj(b:Nat)(vs:List Value)(e:TypeId):ob b vs e b=some (.cells vs.toArray e (0,0)):=by simp[ob,Hp.one]
theorem ZYM(b:Nat)(vs:List Value)(e:TypeId)(i:Nat):(ob b vs e).cell? ⟨b,i,none⟩=vs[i]?:=by simp[Hp.cell?,ZJj]
theorem ZIB(b:Nat)(o q:Obj):(Hp.one b o).upd b q=Hp.one b q:=by funext k;unfold Hp.one Hp.upd;by_cases e:k=b<;>simp[e]
theorem ZCk(b i n:Nat):(⟨b,i,none⟩:Addr).add n=⟨b,i+n,none⟩:=by unfold Addr.add;by_cases h:n=0<;>simp[h]
variable {a:Addr}
theorem ZA5(q:a.spot=none)(n:Nat):a.add n=⟨a.block,a.off+n,none⟩:=by obtain⟨b,i,s⟩:=a;cases q;exact ZCk b i n
@[simp] theorem ZaS (a:Addr):a.add 0=a:=rfl
theorem ZBI(x:(vs.drop i).take cs.length=cs):(ob b vs e).rds ⟨b,i,none⟩ cs:=by
 intro j v q;rw[ZCk,ZYM];have r:j<cs.length:=by
  rcases WB j cs.length with h|h
  .exact h
  .rw [XP h]at q;cases q
 rw[<-x,Yw r,Wr]at q;exact q
theorem ZL(o:On h l)(k:Nat)(r:l[k]?=some (ob b vs e)){x:cd.T}{K:cd.T->Prop}(y:(vs.drop i).take (cd.enc x).cells.toList.length=(cd.enc x).cells.toList)(q:K x):ZC cd ⟨b,i,none⟩ h K:=
 ⟨x,Hp.sub_rds (o.get r) (ZBI y),q⟩
theorem ZKD(r:c b=some (.cells cs.toArray e fz))(v:Value):
 c.setCell ⟨b,i,none⟩ v=c.upd b (.cells (cs.set i v).toArray e fz):=by
 funext k;unfold Hp.setCell Hp.upd;by_cases q:k=b
 .subst q;simp[r,ZOi]
 .simp [q]
theorem upd_upd(c:Hp)(b:Nat)(o q:Obj):(c.upd b o).upd b q=c.upd b q:=by funext k;unfold Hp.upd;by_cases e:k=b<;>simp[e]
theorem ZVz(cs:List Value)(i:Nat):ZE9 cs i []=cs:=by simp[ZE9]
theorem ZWb(cs:List Value)(i:Nat)(v:Value)(l:List Value)(q:i+(l.length+1)<=cs.length):ZE9 (cs.set i v) (i+1) l=ZE9 cs i (v::l):=by unfold ZE9;rw[List.take_set,Ue (by omega)];rw[List.take_succ_eq_append_getElem (by omega),Yg _ _ (by simp;omega)];simp only[Xk,Yo (show i<=cs.length by omega),Wz,YD,Xu,Va,XV,XI];rw[show i+1+l.length=i+(l.length+1) by omega]
theorem ZS0:∀ (vs:List Value) (c:Hp) (i j:Nat) (cs:List Value),c b=some (.cells cs.toArray e fz)->i+j+vs.length<=cs.length->
 c.wrs ⟨b,i,none⟩ j vs=c.upd b (.cells (ZE9 cs (i+j) vs).toArray e fz):=by
 intro vs;induction vs with
 | nil=>
   intro c i j cs q _;rw[ZVz];funext k;unfold Hp.wrs Hp.upd;by_cases r:k=b
   .subst r;rw[Xe rfl,q]
   .rw [Xd r]
 | cons v l x=>
   intro c i j cs q hl;simp only[XI]at hl;show (c.setCell ((⟨b,i,none⟩:Addr).add j) v).wrs ⟨b,i,none⟩ (j+1) l=_;rw[ZCk,ZKD q];rw[x _ i (j+1) (cs.set (i+j) v) (by simp[Hp.upd]) (by simp;omega),upd_upd,show i+(j+1)=i+j+1 by omega,ZWb cs (i+j) v l (by omega)]
theorem ZBT(x:c b=some (.cells cs.toArray e fz))(hl:i+n<=cs.length)(q:∀ k,i<=k->k<i+n->¬(fz.1<=k/\k<fz.2)):
 c.may ⟨b,i,none⟩ n:=by
 intro k D;rw[ZCk];obtain⟨E,y⟩:=fz;have r:i+k<cs.length:=by omega
 have q:=q (i+k) (by omega) (by omega);refine⟨⟨cs[i+k],by simp[Hp.cell?,x,r]⟩,?_⟩;simp only[Hp.frozen?,x];simpa using q
theorem Hp.sub_may(s:c.sub h)(m:c.may a n):h.may a n:=by
 intro i x;obtain⟨⟨v,q⟩,hf⟩:=m i x;refine⟨⟨v,Hp.sub_cell s q⟩,?_⟩;unfold Hp.cell? at q;unfold Hp.frozen? at hf⊢;cases r:c (a.add i).block with
 | none=>rw[r]at q;cases q
 | some o=>rw[r]at hf;rw[s _ _ r];exact hf
theorem On.wrs(o:On h (c::l))(q:c b=some (.cells cs.toArray e fz))(hl:i+vs.length<=cs.length):
 On (h.wrs ⟨b,i,none⟩ 0 vs) (c.upd b (.cells (ZE9 cs i vs).toArray e fz)::l):=by
 rw[ZS0 vs h i 0 cs (o.2 c (by simp) _ _ q) (by omega),Vq];exact o.upd q _
theorem ZX(o:On h (ob b vs e::l)){x:cd.T}(r:cd.mem=true)(D:ZE9 vs i (cd.enc x).cells.toList=vs')(hl:i+cd.n<=vs.length)(q:∀ h',On h' (ob b vs' e::l)->K h'):ZS cd ⟨b,i,none⟩ x h K:=by
 have y:=(ZAo r x).1;refine⟨Hp.sub_may (o.2 _ (by simp)) (ZBT (ZJj b vs e) hl (by omega)),q _ ?_⟩;have:=o.wrs (ZJj b vs e) (i:=i) (vs:=(cd.enc x).cells.toList) (by simpa[y]using hl);rw[D]at this;unfold ob at this⊢;rw[ZIB]at this;exact this
theorem ZH(o:On h l){K:Nat->Hp->Prop}(q:∀ b h',On h' (ob b vs e::l)->K b h'):ZJ (.cells vs.toArray e (0,0)) h K:=
 λb r=>q b _ (o.new r _)
def Row(cd:Cdc)(g:Hp)(s:Sl)(xs:List cd.T):Prop:=
 s.len=xs.length/\match s.a with
  | none=>xs=[]
  | some a=>g.rds a (ZO cd xs)
def Own(cd:Cdc)(c:Hp)(s:Sl)(xs:List cd.T):Prop:=
 s.len=xs.length/\match s.a with
  | none=>s.cap=0/\xs=[]
  | some a=>a.spot=none/\∃ pre rest ZBh e fz,c a.block=some (.cells (pre++(ZO cd xs++(rest++ZBh))).toArray e fz)/\pre.length=a.off/\
     xs.length*cd.n+rest.length=s.cap*cd.n/\∀ k,a.off<=k->k<a.off+s.cap*cd.n->¬(fz.1<=k/\k<fz.2)
variable {cd:Cdc}{g h c:Hp}{s t:Sl}{xs ys:List cd.T}{l:List Hp}
theorem Row.sub(r:Row cd g s xs)(q:g.sub h):Row cd h s xs:=by
 refine⟨r.1,?_⟩;have:=r.2;split at this
 .exact this
 .exact Hp.sub_rds q this
theorem Row.nil(g:Hp):Row cd g ⟨none,0,0⟩ []:=⟨rfl,rfl⟩
theorem Own.nil(g:Hp):Own cd g ⟨none,0,0⟩ []:=⟨rfl,rfl,rfl⟩
theorem ZK3(x:c b=some (.cells cs.toArray e fz))(y:(cs.drop i).take vs.length=vs):c.rds ⟨b,i,none⟩ vs:=by
 intro j v q;rw[ZCk];have r:j<vs.length:=by
  rcases WB j vs.length with h|h
  .exact h
  .rw [XP h]at q;cases q
 rw[<-y,Yw r,Wr]at q;simp[Hp.cell?,x,q]
theorem ZWh(q:a.spot=none):a=⟨a.block,a.off,none⟩:=by obtain⟨b,i,s⟩:=a;cases q;rfl
theorem Own.row(r:Own cd g s xs):Row cd g s xs:=by
 refine⟨r.1,?_⟩;have:=r.2;split at this
 .exact this.2
 .obtain ⟨q,pre,rest,ZBh,e,fz,y,x,D,_⟩:=this;rename_i a E;rw[ZWh q];refine ZK3 y ?_;rw[<-x,XF (Xc _),XY,XV,Wt (Xc _),Xo]
theorem ZAc(cd:Cdc)(x:cd.T)(xs:List cd.T):ZO cd (x::xs)=(cd.enc x).cells.toList++ZO cd xs:=rfl
theorem Zq(cd:Cdc)(xs ys:List cd.T):ZO cd (xs++ys)=ZO cd xs++ZO cd ys:=by simp[ZO]
theorem ZFG(r:cd.mem=true):∀ (xs:List cd.T) (i:Nat) (x:cd.T),xs[i]?=some x->((ZO cd xs).drop (i*cd.n)).take cd.n=(cd.enc x).cells.toList:=by
 intro xs;induction xs with
 | nil=>intro i x h;cases h
 | cons y xs D=>
   intro i x h;have q:((cd.enc y).cells.toList).length=cd.n:=by simpa using (ZAo r y).1
   cases i with
   | zero=>
     simp only[YQ,XT]at h;subst h;rw[Nat.zero_mul,VY,ZAc,Wt (by omega),<-q,Xo]
   | succ i=>
     simp only[Yh]at h;rw[ZAc,Wx,Vs,VN,<-Yl,<-q,XF (Xc _),XY,XV,q];exact D i x h
theorem Hp.rds_add(r:g.rds a cs)(k:Nat)(E:(cs.drop k).take vs.length=vs):g.rds (a.add k) vs:=by
 intro j v q;have x:j<vs.length:=by
  rcases WB j vs.length with h|h
  .exact h
  .rw [XP h]at q;cases q
 rw[<-E,Yw x,Wr]at q;have:=r (k+j) v q;rw[show (a.add k).add j=a.add (k+j) by
  obtain⟨b,i,sp⟩:=a;unfold Addr.add;by_cases y:k=0<;>by_cases D:j=0<;>simp[y,D,Vi]]
 exact this
theorem ZN(r:Row cd g s xs){i:Int}(h0:0<=i)(q:i<xs.length){K:Addr->Prop}(y:∀ a,s.a=some a->K a):Zb s.a s.len i K:=by
 refine⟨h0,by rw[r.1];exact q,?_⟩;cases x:s.a with
 | none=>have:=r.2;rw[x]at this;subst this;simp at q;omega
 | some a=>exact y a x
theorem ZQ(r:Row cd g s xs)(I:g.sub h)(q:cd.mem=true)(E:s.a=some a){x:cd.T}(M:xs[i]?=some x)(G:i*cd.n=m){K:cd.T->Prop}(D:K x):ZC cd (a.add m) h K:=by
 refine⟨x,?_,D⟩;have y:=r.2;rw[E]at y;subst G;have hl:((cd.enc x).cells.toList).length=cd.n:=by simpa using (ZAo q x).1
 exact Hp.sub_rds I (Hp.rds_add y _ (by rw[hl];exact ZFG q xs i x M))
theorem ZC5(r:Row cd g s xs)(D:g.sub h){K:List cd.T->Prop}(y:K xs):ZCS cd s.a s.len h K:=by
 have x:=r.2;unfold ZCS;split at x
 .rename_i q;rw[q];subst x;exact⟨r.1,y⟩
 .rename_i a q;rw[q];exact⟨xs,r.1.symm,Hp.sub_rds D x,y⟩
theorem ZMG(xs:List Int):ZD6 xs=ZO (cI .u8) xs:=by
 induction xs with
 | nil=>rfl
 | cons x xs q=>
   show Value.int .u8 x::ZD6 xs=Value.int .u8 x::ZO (cI .u8) xs;rw[q]
theorem ZSQ{xs:List Int}(r:Row (cI .u8) g s xs)(D:g.sub h){K:ByteArray->Prop}(y:K (ZKM xs)):ZZk s.a s.len h K:=by
 have x:=r.2;unfold ZZk;split at x
 .rename_i q;rw[q];have:xs=[]:=x;subst this;exact y
 .rename_i a q;rw[q];exact⟨xs,r.1.symm,by rw[ZMG];exact Hp.sub_rds D x,y⟩
theorem Row.cut(r:Row cd g s xs)(E:k<=m)(I:m<=xs.length)(U:xs.length<=s.cap)(G:cd.mem=true)(O:z=cd.n):
 Row cd g ⟨Zh s.a k s.cap z,m-k,cap'⟩ ((xs.drop k).take (m-k)):=by
 subst O;refine⟨by simp;omega,?_⟩;have x:=r.2;show match Zh s.a k s.cap cd.n with
  | none=>_
  | some a=>_
 cases y:s.a with
 | none=>
   rw[y]at x;have:xs=[]:=x;subst this;have:Zh none k s.cap cd.n=none:=by unfold Zh;split<;>rfl
   rw[this];simp
 | some a=>
   rw[y]at x;have key:g.rds (a.add (k*cd.n)) (ZO cd ((xs.drop k).take (m-k))):=by
    refine Hp.rds_add x _ ?_;have e:ZO cd xs=ZO cd (xs.take k)++(ZO cd ((xs.drop k).take (m-k))++ZO cd ((xs.drop k).drop (m-k))):=by rw[<-Zq,<-Zq,XO,XO]
    have q:(ZO cd (xs.take k)).length=k*cd.n:=by rw[Zi G,Xk,Yo (by omega)]
    rw[e,<-q,XF (Xc _),XY,XV,Wt (Xc _),Xo]
   unfold Zh;by_cases D:s.cap=k
   .rw [Xe D];have:m-k=0:=by omega
    rw[this];intro i v M;simp[ZO]at M
   .rw [Xd D];exact key
theorem ZAx{rest:List Value}(x:vs=ZO cd xs++rest)(r:n=xs.length)(q:xs.length*cd.n+rest.length=cap*cd.n):Own cd (ob b vs e) ⟨some ⟨b,0,none⟩,n,cap⟩ xs:=by
 refine⟨r,rfl,[],rest,[],e,(0,0),?_,rfl,q,?_⟩
 .simp [ZJj,x]
 .intro k y D;simp
theorem Zk(r:vs=ZO cd xs)(q:n=xs.length):Row cd (ob b vs e) ⟨some ⟨b,0,none⟩,n,cap⟩ xs:=by refine⟨q,?_⟩;subst r;exact ZK3 (ZJj b _ e) (by simp)
variable {K:Option Addr->Nat->Nat->Hp->Prop}
theorem ZW(o:On h (c::l))(hm:cd.mem=true)(w:Own cd c s xs)(hn:0<cd.n)(hy:Row cd g t ys)(hg:g.sub h)(ab:(xs.length+ys.length)*bytes<=ZAW)(hK:∀ (c':Hp) (p:Option Addr) (n m:Nat) (h':Hp),On h' (c'::l)->Own cd c' ⟨p,n,m⟩ (xs++ys)->K p n m h'):
 ZR cd e bytes s.a s.len s.cap t.a t.len h K:=by
 unfold ZR;refine ZC5 hy hg ?_;have q:=w.1;have r:=hy.1;refine⟨λhle=>?_,λhlt=>?_⟩
 ·have hr:=w.2;cases ha:s.a with
  | none=>
    rw[ha]at hr;obtain⟨h1,h2⟩:=hr;dsimp only;have:ys=[]:=by
     cases ys with
     | nil=>rfl
     | cons y ys=>rw[h2]at q;simp at q r;omega
    subst this;refine hK c none _ _ h o ?_;rw[Wl];exact⟨by rw[q,r];simp,h1,h2⟩
  | some a=>
    rw[ha]at hr;obtain⟨V,pre,rest,ZBh,e',fz,hb,x,hroom,I⟩:=hr;dsimp only;have Y:(ZO cd ys).length=ys.length*cd.n:=Zi hm ys;have X:(ZO cd xs).length=xs.length*cd.n:=Zi hm xs;have G:ys.length*cd.n<=rest.length:=by have:(xs.length+ys.length)*cd.n<=s.cap*cd.n:=Xr _ (by omega);rw[Wx]at this;omega
    have M:(s.len+t.len)*cd.n<=s.cap*cd.n:=Xr _ hle;have E:a.add (s.len*cd.n)=⟨a.block,a.off+s.len*cd.n,none⟩:=ZA5 V _;have D:a.off+s.len*cd.n+t.len*cd.n<=(pre++(ZO cd xs++(rest++ZBh))).length:=by simp only[Xg,x,X,q,r];omega
    rw[E];refine⟨Hp.sub_may (o.2 c (by simp)) (ZBT hb D λk h1 h2=>I k (by omega) ?_),?_⟩
    .rw [Wx]at M;omega
    ·have o':=o.wrs hb (i:=a.off+s.len*cd.n) (vs:=ZO cd ys) (by rw[Y,<-r];exact D);refine hK _ (some a) _ _ _ o' ?_
     have U:ZE9 (pre++(ZO cd xs++(rest++ZBh))) (a.off+s.len*cd.n) (ZO cd ys)=pre++(ZO cd (xs++ys)++(rest.drop (ys.length*cd.n)++ZBh)):=by
         have hp:(pre++ZO cd xs).length=a.off+s.len*cd.n:=by simp[x,X,q]
         unfold ZE9;rw[<-Xu pre,<-hp,Wt (Xc _),Xo,<-Yl,XF (Xc _),XY,XV,Y,
          XF G,Zq]
         simp
     rw[U];refine⟨by rw[q,r];simp,V,pre,rest.drop (ys.length*cd.n),ZBh,e',fz,by simp[Hp.upd],x,?_,I⟩;simp only[Xg,XN,Wx];omega
 .refine ⟨by rw[q,r];exact ab,ZC5 w.row (o.2 c (by simp)) ?_⟩;intro nc Z hnc O b hbn;have o':=o.tail.new hbn (.cells (ZO cd xs++(ZO cd ys++Z)).toArray e (0,0));refine hK _ (some ⟨b,0,none⟩) _ _ _ o' ?_;refine ZAx (rest:=Z) (by rw[Zq,Xu]) (by rw[q,r];simp) ?_;rw[O,<-Wx];congr 1;rw[q,r]at hnc⊢;simp;omega
open Go.RowKit Go.ChangeShapes Go.WideShapes
def Opn(P:Program)(W:World)(t:TypeId)(cs:List Value):Prop:=
 ∃ (H:Type) (enc:TypeId×Value->H) (base:Nat) (spare:Nat->Bool) (held:Bool) (fuel:Nat) (y:DataW H×List MemPlace),DataW.trod enc P W base spare held fuel t cs=some y/\∀ n∈y.1.weights P t,n<=reachBytes
def ZVS(P:Program)(rec:TypeId->Option (List (Lk×TypeId))):List Field->Nat->Option (List (Lk×TypeId))
 | [],_=>some []
 | f::fs,off=>bif Nat.beq f.offset off then
    match rec f.type with
    | some l=>bif Nat.beq l.length (P.cellsOf f.type) then
       match ZVS P rec fs (off+l.length) with
       | some r=>some (l++r)
       | none=>none
      else none
    | none=>none
   else none
def ZZL(P:Program):Nat->TypeId->Option (List (Lk×TypeId))
 | 0,_=>none
 | d+1,t=>match P.underlying t with
   | some (.int k)=>some [(.i k,t)]
   | some .bool=>some [(.b,t)]
   | some .string=>some [(.s,t)]
   | some (.slice _)=>some [(.sl,t)]
   | some (.struct fs)=>match ZVS P (ZZL P d) fs.toList 0 with
     | some l=>bif Nat.beq l.length (P.cellsOf t) then some l else none
     | none=>none
   | some (.array n e)=>match ZZL P d e with
     | some l=>bif Nat.beq l.length (P.cellsOf e)&&Nat.beq (n*l.length) (P.cellsOf t) then some (List.replicate n l).flatten else none
     | none=>none
   | _=>none
def ZOL(P:Program)(W:World):Lk->TypeId->Value->Prop
 | .i k,_,v=>∃ n,v=.int k n/\(Lit.int k n).wf=true
 | .b,_,v=>∃ b,v=.bool b
 | .s,_,v=>∃ s,v=.string s/\s.size<=maxLen
 | .sl,t,v=>(∃ a l c,v=.slice a l c)/\Opn P W t [v]
 | _,_,_=>False
def ZSy(P:Program)(W:World):(lk:Lk)->TypeId->lk.T->Prop
 | .i k,_,n=>(Lit.int k n).wf=true
 | .s,_,s=>s.size<=maxLen
 | .sl,t,s=>Opn P W t [.slice s.a s.len s.cap]
 | _,_,_=>True
def okL(P:Program)(W:World):(ls:List (Lk×TypeId))->LT (ls.map (·.1))->Prop
 | [],_=>True
 | [a],x=>ZSy P W a.1 a.2 x
 | a::b::l,x=>ZSy P W a.1 a.2 x.1/\okL P W (b::l) x.2
theorem ZVg:∀ (q:Lk) (t:TypeId) (v:Value),ZOL P W q t v->∃ x:q.T,v=q.enc x/\ZSy P W q t x:=by
 intro q t v h;cases q with
 | i k=>obtain⟨n,rfl,h⟩:=h;exact⟨n,rfl,h⟩
 | b=>obtain⟨b,rfl⟩:=h;exact⟨b,rfl,trivial⟩
 | s=>obtain⟨s,rfl,h⟩:=h;exact⟨s,rfl,h⟩
 | p=>exact h.elim
 | sl=>obtain⟨⟨a,l,c,rfl⟩,h⟩:=h;exact⟨⟨a,l,c⟩,rfl,h⟩
 | c=>exact h.elim
theorem ZPv:∀ (ls:List (Lk×TypeId)) (cs:List Value),cs.length=ls.length->(∀ (i:Nat) (lt:Lk×TypeId) (v:Value),ls[i]?=some lt->cs[i]?=some v->ZOL P W lt.1 lt.2 v)->
 ∃ x:LT (ls.map (·.1)),cs=ZKf (ls.map (·.1)) x/\okL P W ls x:=by
 intro ls;induction ls with
 | nil=>intro cs hl _;rw[Yd,WJ]at hl;subst hl;exact⟨(),rfl,trivial⟩
 | cons a ls M=>
   intro cs hl q;cases cs with
   | nil=>simp at hl
   | cons v cs=>
     obtain⟨x,r,D⟩:=ZVg a.1 a.2 v (q 0 a v rfl rfl);obtain⟨y,I,oy⟩:=M cs (by simpa using hl) λi lt u E G=>q (i+1) lt u (by simpa using E) (by simpa using G);cases ls with
     | nil=>
       refine⟨x,?_,D⟩;have:cs=[]:=by simpa using hl
       subst this;rw[r];rfl
     | cons b ls=>exact⟨(x,y),by rw[r,I];rfl,D,oy⟩
section
variable {H:Type}{enc:TypeId×Value->H}{P:Program}{W:World}{base:Nat}{spare:Nat->Bool}{held:Bool}
theorem ZCw{e:TypeId}:∀ {q:List (DataW H)} {d:DataW H},d∈q->∀ n∈d.weights P e,n∈DataW.weightsAll P e q
 | d0::q,d,hd,n,hn=>by
   simp only[DataW.weightsAll,Xx];rcases Xm.1 hd with rfl|hd
   .exact .inl hn
   .exact .inr (ZCw hd n hn)
theorem ZIr{t:TypeId}{q:Nat}{y:DataW H×List MemPlace}(r:P.underlying t=some (.slice e))(h:DataW.trod enc P W base spare held q t cs=some y):
 ∃ a l c,cs=[.slice a l c]:=by
 rcases DataW.trod_slice r h with ⟨h0,_⟩|⟨a,len,cap,_,_,_,_,rfl,_⟩
 .exact ⟨_,_,_,h0⟩
 .exact ⟨_,_,_,rfl⟩
theorem ZM9:∀ (d:Nat) (t:TypeId) (ls:List (Lk×TypeId)) (G:Nat) (cs:List Value) (y:DataW H×List MemPlace),ZZL P d t=some ls->DataW.trod enc P W base spare held G t cs=some y->(∀ n∈y.1.weights P t,n<=reachBytes)->
 cs.length=ls.length/\∀ (i:Nat) (lt:Lk×TypeId) (v:Value),ls[i]?=some lt->cs[i]?=some v->ZOL P W lt.1 lt.2 v:=by
 intro d;induction d with
 | zero=>intro t ls G cs y h;cases h
 | succ d ih=>
   intro t ls G cs y x h ah;unfold ZZL at x;split at x
   .rename_i k O;cases x;obtain⟨n,rfl,_,hw⟩:=DataW.trod_int O h;refine⟨rfl,λi lt v q I=>?_⟩;cases i with
    | zero=>cases q;cases I;exact⟨n,rfl,hw⟩
    | succ i=>cases q
   .rename_i O;cases x;obtain⟨b,rfl,_⟩:=DataW.trod_bool O h;refine⟨rfl,λi lt v q I=>?_⟩;cases i with
    | zero=>cases q;cases I;exact⟨b,rfl⟩
    | succ i=>cases q
   .rename_i O;cases x;obtain⟨s,rfl,_,hs⟩:=DataW.trod_string O h;refine⟨rfl,λi lt v q I=>?_⟩;cases i with
    | zero=>cases q;cases I;exact⟨s,rfl,hs⟩
    | succ i=>cases q
   .rename_i e O;cases x;obtain⟨a,l,c,rfl⟩:=ZIr O h;refine⟨rfl,λi lt v q I=>?_⟩;cases i with
    | zero=>cases q;cases I;exact⟨⟨a,l,c,rfl⟩,⟨H,enc,base,spare,held,G,y,h,ah⟩⟩
    | succ i=>cases q
   ·rename_i fs O;split at x
    ·rename_i l hl;cases X:Nat.beq l.length (P.cellsOf t) with
     | false=>rw[X]at x;cases x
     | true=>
       rw[X]at x;cases x;obtain⟨xs,n,_,hy,V,hxl,Y⟩:=DataW.trod_struct O h;subst hy;refine⟨by rw[V];exact(Wv X).symm,?_⟩;have U:∀ f∈fs.toList,∃ z,DataW.trod enc P W base spare held n f.type ((cs.drop f.offset).take (P.cellsOf f.type))=some z/\∀ m∈z.1.weights P f.type,m<=reachBytes:=by
         intro f x;obtain⟨i,M⟩:=Ya x;have hi':fs[i]?=some f:=by simpa using M
         have hlt:i<xs.length:=by rw[hxl];exact(Yc.1 hi').1
         refine⟨xs[i],by rw[Y i f hi'];simp[hlt],λm hm=>ah m ?_⟩;simp only[DataW.weights,O];exact DataW.weights_mem_each (j:=i) (t:=f.type) (d:=xs[i].1) (by simp[M]) (by simp[hlt]) m hm
       have key:∀ (fl:List Field) (off:Nat) (r:List (Lk×TypeId)),ZVS P (ZZL P d) fl off=some r->(∀ f∈fl,∃ z,DataW.trod enc P W base spare held n f.type ((cs.drop f.offset).take (P.cellsOf f.type))=some z/\∀ m∈z.1.weights P f.type,m<=reachBytes)->
          ∀ (i:Nat) (lt:Lk×TypeId) (v:Value),r[i]?=some lt->cs[off+i]?=some v->ZOL P W lt.1 lt.2 v:=by
         intro fl
         induction fl with
         | nil=>intro off r D _ i lt v q;cases D;cases q
         | cons f fl ihf=>
           intro off r D hz i lt v q I;unfold ZVS at D;cases ac:Nat.beq f.offset off with
           | false=>rw[ac]at D;cases D
           | true=>
             rw[ac]at D;have e1:=Wv ac;simp only[XL]at D;split at D
             ·rename_i l' hl';cases ae:Nat.beq l'.length (P.cellsOf f.type) with
              | false=>rw[ae]at D;cases D
              | true=>
                rw[ae]at D;have e2:=Wv ae;simp only[XL]at D;split at D
                .rename_i r' hr';cases D;obtain⟨z,hz0,aj⟩:=hz f (by simp);obtain⟨_,E⟩:=ih f.type l' n _ z hl' hz0 aj;by_cases M:i<l'.length
                 .rw [XR M]at q;refine E i lt v q ?_;rw[Yw (by omega),Wr,e1];exact I
                 .rw [XJ (by omega)]at q;exact ihf _ _ hr' (λg hg=>hz g (by simp[hg])) (i-l'.length) lt v q (by rw[show off+l'.length+(i-l'.length)=off+i by omega];exact I)
                .cases D
             .cases D
       intro i lt v q I;exact key _ 0 _ hl U i lt v q (by rw[Vp];exact I)
    .cases x
   ·rename_i n e O;split at x
    ·rename_i l hl;cases X:(Nat.beq l.length (P.cellsOf e)&&Nat.beq (n*l.length) (P.cellsOf t)) with
     | false=>rw[X]at x;cases x
     | true=>
       rw[X]at x;cases x;rw[Xf]at X;have e1:=Wv X.1;have e2:=Wv X.2;obtain⟨xs,m,_,hy,V,hxl,hget⟩:=DataW.trod_array O h;subst hy
       have U:∀ i,i<n->∃ z,DataW.trod enc P W base spare held m e ((cs.drop (i*P.cellsOf e)).take (P.cellsOf e))=some z/\∀ k∈z.1.weights P e,k<=reachBytes:=λi M=>
         ⟨xs[i],by rw[hget i M];exact Xa (by omega),λk hk=>ah k (by
           simp only[DataW.weights,O];exact ZCw (Wa.2 ⟨xs[i],Xs _,rfl⟩) k hk)⟩
       have Z:∀ n:Nat,((List.replicate n l).flatten).length=n*l.length:=by intro n;simp
       refine⟨by rw[V,Z,e2],?_⟩;intro i lt v q I;have M:i<n*l.length:=by
         rcases WB i (n*l.length)with h|h
         .exact h
         .rw [XP (by rw[Z];exact h)]at q;cases q
       have ab:0<l.length:=Uh (by intro h0;rw[h0]at M;omega)
       have get:∀ (n i:Nat),i<n*l.length->((List.replicate n l).flatten)[i]?=l[i % l.length]?:=by
         intro n;induction n with
         | zero=>intro i M;omega
         | succ n ihn=>
           intro i M;show (l++(List.replicate n l).flatten)[i]?=_;rw[Wx,Vs]at M;by_cases h:i<l.length
           .rw [XR h,YO h]
           .rw [XJ (by omega),ihn (i-l.length) (by omega),<-Vz (by omega)]
       rw[get n i M]at q;obtain⟨z,hz,aj⟩:=U (i / l.length) ((Nat.div_lt_iff_lt_mul ab).2 M);obtain⟨_,E⟩:=ih e l m _ z hl hz aj;refine E (i % l.length) lt v q ?_;rw[<-e1,Yw (VM _ ab),Wr,Yv,Nat.div_add_mod];exact I
    .cases x
   .cases x
end
def ZW3(W:World):Hp:=λb=>W.heap[b]?
theorem ZZP(W:World):(ZW3 W).le W:=λ_ _ h=>h
variable {t:TypeId}{d:Nat}{ls:List (Lk×TypeId)}
theorem ZSi(h:Opn P W t cs)(E:ZZL P d t=some ls):∃ x:LT (ls.map (·.1)),cs=ZKf (ls.map (·.1)) x/\okL P W ls x:=by obtain⟨H,enc,base,spare,held,q,y,h,G⟩:=h;obtain⟨r,D⟩:=ZM9 d t ls q cs y E h G;exact ZPv ls cs r D
theorem ZUh(mk:LT (ls.map (·.1))->cd.T)(ac:∀ x,(cd.enc (mk x)).cells.toList=ZKf (ls.map (·.1)) x){a:Option Addr}{len:Nat}(h:Opn P W t [.slice a len cap])(hu:P.underlying t=some (.slice e))(hf:ZZL P d e=some ls)(hc:P.cellsOf e=ls.length):
 len<=cap/\cap<=maxLen/\len*P.bytesOf e<=reachBytes/\∃ xs:List cd.T,Row cd (ZW3 W) ⟨a,len,cap⟩ xs/\∀ x∈xs,∃ y,x=mk y/\okL P W ls y:=by
 obtain⟨H,enc,base,spare,held,fuel,y,h,hw⟩:=h;rcases DataW.trod_slice hu h with ⟨h0,_⟩|⟨ad,len',cap',elems,rest,n,_,h0,hy,hb,hl,hm,hlen,hel,_,_⟩
 .cases h0;exact⟨Xc _,Xh _,by omega,[],⟨rfl,rfl⟩,λx q=>by cases q⟩
 ·cases h0;subst hy;have hw':(elems.length+rest.length)*P.bytesOf e<=reachBytes:=by have:=hw ((elems.length+rest.length)*P.bytesOf e) (by simp[DataW.weights,hu]);exact this
  refine⟨hl,hm,XG (Xr _ (by omega)) hw',?_⟩;have M:∀ i,i<len->∃ x:LT (ls.map (·.1)),okL P W ls x/\∀ j v,(ZKf (ls.map (·.1)) x)[j]?=some v->W.cell? (ad.add (i*ls.length+j))=some v:=by
   intro i hi;have Y:i<elems.length:=by omega
   have:=hel i hi;rw[Xa Y,WY]at this;obtain⟨cs,X,ae⟩:=this;obtain⟨x,q,ok⟩:=ZSi (P:=P) (W:=W) ⟨H,enc,base,spare,held,n,_,ae,λk hk=>hw k (by
    simp only[DataW.weights,hu,Xm,Xx];exact .inr (.inl (ZCw (Wa.2 ⟨elems[i],Xs _,rfl⟩) k hk)))⟩ hf
   refine⟨x,ok,λj v V=>?_⟩;obtain⟨_,ab,U⟩:=World.cells?_some X;rw[hc]at ab U;rw[<-q]at V;have Z:j<ls.length:=by
    rcases WB j ls.length with h|h
    .exact h
    .rw [XP (by omega)]at V;cases V
   have:=U j Z;rw[V]at this;rw[<-this];congr 1;obtain⟨b,o,sp⟩:=ad;unfold Addr.add;by_cases r:i*ls.length=0<;>by_cases E:j=0<;>simp[r,E,Vi]
  have build:∀ m,m<=len->∃ xs:List (LT (ls.map (·.1))),xs.length=m/\(∀ x∈xs,okL P W ls x)/\∀ i v,(xs.flatMap (ZKf (ls.map (·.1))))[i]?=some v->W.cell? (ad.add i)=some v:=by
   intro m;induction m with
   | zero=>exact λ_=>⟨[],rfl,(λx q=>absurd q XW),(λi v D=>by cases D)⟩
   | succ m ihm=>
     intro hm';obtain⟨xs,r,E,O⟩:=ihm (by omega);obtain⟨x,ok,q⟩:=M m (by omega);refine⟨xs++[x],by simp[r],λz I=>?_,λi v D=>?_⟩
     .rcases Xx.1 I with I|I
      .exact E z I
      .rw [Xl]at I;subst I;exact ok
     ·have hxl:(xs.flatMap (ZKf (ls.map (·.1)))).length=m*ls.length:=by
          rw[<-r];clear r E O D;induction xs with
          | nil=>simp
          | cons z xs G=>simp only[Yx,Xg,G,ZOD,We,XI,Wx,Vs];omega
      rw[List.flatMap_append,Yx,List.flatMap_nil,Wl]at D;by_cases hi:i<m*ls.length
      .rw [XR (by omega)]at D;exact O i v D
      .rw [XJ (by omega),hxl]at D;have:=q (i-m*ls.length) v D;rw[show m*ls.length+(i-m*ls.length)=i by omega]at this;exact this
  obtain⟨xs,r,E,O⟩:=build len (Xc _);refine⟨xs.map mk,⟨by simp[r],?_⟩,λx q=>?_⟩
  .show (ZW3 W).rds ad (ZO cd (xs.map mk));have:ZO cd (xs.map mk)=xs.flatMap (ZKf (ls.map (·.1))):=by
    clear r E O;induction xs with
    | nil=>rfl
    | cons z xs G=>rw[XS,ZAc,G,ac];rfl
   rw[this];exact O
  .obtain ⟨y,hy,rfl⟩:=Wa.1 q;exact⟨y,rfl,E y hy⟩
variable {A:Prop}{b:Bool}
theorem Zf(q:b=true)(h:A):ZB b A B:=by subst q;exact h
theorem ZU(q:b=false)(h:B):ZB b A B:=by subst q;exact h
theorem ZD(q:b=true->A)(r:b=false->B):ZB b A B:=by
 cases b
 .exact r rfl
 .exact q rfl
theorem ZG[Decidable p](q:p->A)(r:¬p->B):ZB (decide p) A B:=by
 by_cases h:p
 .rw [XB h];exact q h
 .rw [Xj h];exact r h
theorem ZI{T:Type}{q:T->Hp->Prop}{B:(T->Hp->Prop)->Prop}(S:T->Hp->Prop)(r:∀ x h,S x h->q x h)(y:∀ J:T->Hp->Prop,(∀ x h,S x h->J x h)->B J):ZT q B:=y q r
theorem Zc{T:Type}{x0:T}{B:(T->Hp->Prop)->T->Hp->Prop}(I:T->Hp->Prop)(μ:T->Nat)(r:I x0 h0)(step:∀ (J:T->Hp->Prop) (x:T) (h:Hp),(∀ x' h',I x' h'->μ x'<μ x->J x' h')->I x h->B J x h):Ze x0 h0 B:=
 ⟨I,λx _=>μ x,r,λx h q=>step _ x h (λ_ _ a b=>⟨a,b⟩) q⟩
theorem w64{n:Int}(q:-9223372036854775808<=n)(r:n<=9223372036854775807):IntKind.i64.wrap n=n:=by rw[IntKind.wrap_i64];omega
theorem Z1(h:n<9223372036854775807):IntKind.i64.wrap ((n:Int)+1)=((n+1:Nat):Int):=by rw[w64 (by omega) (by omega)];omega
theorem ZZl{args:Array Value}(s:ZHn P f args (ZW3 W) λv h'=>R v/\(ZW3 W).sub h'):
 Calls P f args W λe r=>(∃ v,e=.returned v/\R v)/\RowKit.Below W.heap.size W r:=by
 refine(s W Hp.emp (ZZP W) (Hp.emp_le W) (λb=>.inr rfl)).mono ?_;rintro e r ⟨v,h',rfl,⟨D,q⟩,hle,_,_,sm⟩;have y:∀ k,k<W.heap.size->r.heap[k]?=W.heap[k]?:=by intro k E;have x:W.heap[k]?=some W.heap[k]:=Yr E;rw[x];exact hle k _ (q k _ x)
 refine⟨⟨v,rfl,D⟩,sm.os,sm.tape,sm.output,?_,y⟩;rcases Vo W.heap.size with h0|h0
 .omega
 .have:=y (W.heap.size-1) (by omega);rw[Yr (show W.heap.size-1<W.heap.size by omega)]at this;rcases WB (W.heap.size-1) r.heap.size with h|h
  .omega
  .rw [YC h]at this;cases this
def ZDE{α β:Type}(R:α->β->Prop):List α->List β->Prop
 | [],[]=>True
 | a::l,b::m=>R a b/\ZDE R l m
 | _,_=>False
theorem ZDE.len{α β:Type}{R:α->β->Prop}:∀ {l:List α} {m:List β},ZDE R l m->l.length=m.length
 | [],[],_=>rfl
 | _::_,_::_,h=>by simp[ZDE.len h.2]
 | [],_::_,h=>h.elim
 | _::_,[],h=>h.elim
theorem ZDE.get{α β:Type}{R:α->β->Prop}:∀ {l:List α} {m:List β},ZDE R l m->∀ (i:Nat) (a:α),l[i]?=some a->∃ b,m[i]?=some b/\R a b
 | [],[],_,i,a,h=>by cases h
 | x::l,y::m,hr,0,a,h=>by simp at h;subst h;exact⟨y,rfl,hr.1⟩
 | x::l,y::m,hr,i+1,a,h=>ZDE.get hr.2 i a (by simpa using h)
 | [],_::_,h,_,_,_=>h.elim
 | _::_,[],h,_,_,_=>h.elim
theorem ZDE.mono{α β:Type}{R S:α->β->Prop}(q:∀ a b,R a b->S a b):∀ {l:List α} {m:List β},ZDE R l m->ZDE S l m
 | [],[],_=>trivial
 | _::_,_::_,h=>⟨q _ _ h.1,ZDE.mono q h.2⟩
 | [],_::_,h=>h.elim
 | _::_,[],h=>h.elim
theorem ZDE.app{α β:Type}{R:α->β->Prop}:∀ {l:List α} {m:List β} {l':List α} {m':List β},ZDE R l m->ZDE R l' m'->ZDE R (l++l') (m++m')
 | [],[],_,_,_,h=>h
 | _::_,_::_,_,_,h,h'=>⟨h.1,ZDE.app h.2 h'⟩
 | [],_::_,_,_,h,_=>h.elim
 | _::_,[],_,_,h,_=>h.elim
def ZEb(g:Hp):List Sl->List (List Int)->Prop:=ZDE λs bs=>Row (cI .u8) g s bs
theorem ZEb.sub(q:g.sub h){l:List Sl}{m:List (List Int)}(r:ZEb g l m):ZEb h l m:=ZDE.mono (λ_ _ h=>Row.sub h q) r
theorem ZAB(f:α->β->α)(a:α)(l:List β){x:β}(q:l[i]?=some x):(l.take (i+1)).foldl f a=f ((l.take i).foldl f a) x:=by
 have:l.take (i+1)=l.take i++[x]:=by rw[XH,q];rfl
 rw[this,WX];rfl
variable {cd:Cdc}{g h c:Hp}{s t:Sl}{xs ys:List cd.T}{l:List Hp}
theorem On.emp(o:On h l):On h (Hp.emp::l):=
 ⟨Wm.2 ⟨λ_ _ _=>.inl rfl,o.1⟩,λc q=>by
   rcases Xm.1 q with rfl|q
   .intro b o h;cases h
   .exact o.2 c q⟩
theorem ZHG(p q r vs:List Value)(hl:q.length=vs.length):ZE9 (p++(q++r)) p.length vs=p++(vs++r):=by
 unfold ZE9;rw[Wt (Xc _),Xo,<-Yl,XF (Xc _),XY,XV,<-hl,
  XF (Xc _),XY,XV]
theorem ZA4(o:On h (c::l))(U:cd.mem=true)(w:Own cd c s xs)(ha:s.a=some a)(X:i<xs.length)(hn:i*cd.n=m){x:cd.T}{K:Hp->Prop}(hK:∀ c' h',On h' (c'::l)->Own cd c' s (xs.set i x)->K h'):ZS cd (a.add m) x h K:=by
 subst hn;have hr:=w.2;rw[ha]at hr;obtain⟨M,pre,rest,ZBh,e,fz,hb,q,D,E⟩:=hr;have hx:=(ZAo U x).1;have O:((cd.enc x).cells.toList).length=cd.n:=by simpa using hx
 have Y:((cd.enc xs[i]).cells.toList).length=cd.n:=by simpa using (ZAo U xs[i]).1
 have V:(ZO cd xs).length=xs.length*cd.n:=Zi U xs;have r:ZO cd xs=ZO cd (xs.take i)++((cd.enc xs[i]).cells.toList++ZO cd (xs.drop (i+1))):=by rw[<-ZAc,<-Zq,<-XZ X,XO]
 have Z:(ZO cd (xs.take i)).length=i*cd.n:=by rw[Zi U,Xk,Yo (by omega)]
 have G:(i+1)*cd.n<=xs.length*cd.n:=Xr _ X;rw[Wx,Vs]at G;have y:a.off+i*cd.n+cd.n<=(pre++(ZO cd xs++(rest++ZBh))).length:=by simp only[Xg,q,V];omega
 rw[ZA5 M];refine⟨Hp.sub_may (o.2 c (by simp)) (ZBT hb y λk h1 h2=>E k (by omega) (by omega)),?_⟩;have o':=o.wrs hb (i:=a.off+i*cd.n) (vs:=(cd.enc x).cells.toList) (by rw[O];exact y);refine hK _ _ o' ⟨by rw[w.1];simp,?_⟩;rw[ha];refine⟨M,pre,rest,ZBh,e,fz,?_,q,?_,E⟩
 .have I:ZE9 (pre++(ZO cd xs++(rest++ZBh))) (a.off+i*cd.n) (cd.enc x).cells.toList=pre++(ZO cd (xs.set i x)++(rest++ZBh)):=by
   have e1:pre++(ZO cd xs++(rest++ZBh))=(pre++ZO cd (xs.take i))++((cd.enc xs[i]).cells.toList++(ZO cd (xs.drop (i+1))++(rest++ZBh))):=by rw[r];simp only[Xu]
   have e2:a.off+i*cd.n=(pre++ZO cd (xs.take i)).length:=by rw[Xg,q,Z]
   have e3:ZO cd (xs.set i x)=ZO cd (xs.take i)++((cd.enc x).cells.toList++ZO cd (xs.drop (i+1))):=by rw[Uj,Xe X,Zq,ZAc]
   rw[e1,e2,ZHG _ _ _ _ (by rw[Y,O]),e3];simp only[Xu]
  rw[<-I];simp[Hp.upd]
 .rw [Xp];exact D
theorem On.at'{cs:List Hp}(o:On h (cs++l))(i:Nat)(r:cs[i]?=some c):On h (c::(cs.eraseIdx i++l)):=by have q:i<cs.length:=(Xi.1 r).1;have:=o.pull i (c:=c) (by rw[XR q];exact r);rwa[List.eraseIdx_append_of_lt_length q]at this
theorem ZJb{α:Type}:∀ (cs:List α) (i:Nat) (c:α),i<cs.length->(c::cs.eraseIdx i).Perm (cs.set i c)
 | [],_,_,h=>by simp at h
 | x::cs,0,c,_=>WO _
 | x::cs,i+1,c,h=>(Xt x c _).trans (XQ x (ZJb cs i c (by simpa using h)))
theorem On.back'{cs:List Hp}(o:On h (c::(cs.eraseIdx i++l)))(q:i<cs.length):On h (cs.set i c++l):=by refine o.perm ?_;exact(ZJb cs i c q).append_right l
variable {cd:Cdc}{g h c:Hp}{s t:Sl}{xs ys:List cd.T}{l:List Hp}
theorem Own.head(w:Own cd c s xs)(M:cd.mem=true)(I:k<=xs.length):Own cd c ⟨s.a,k,s.cap⟩ (xs.take k):=by
 refine⟨by simp;omega,?_⟩;have x:=w.2;cases E:s.a with
 | none=>rw[E]at x;exact⟨x.1,by rw[x.2];simp⟩
 | some a=>
   rw[E]at x;obtain⟨D,pre,rest,ZBh,e,fz,G,r,q,y⟩:=x;refine⟨D,pre,ZO cd (xs.drop k)++rest,ZBh,e,fz,?_,r,?_,y⟩
   .rw [G];congr 2;rw[<-Xu (ZO cd (xs.take k)),<-Xu (ZO cd (xs.take k)),<-Zq,XO,Xu]
   .rw [Xg,Zi M,Xk,XN,Yo I,<-Vi,<-Wx];rw[show k+(xs.length-k)=xs.length by omega];exact q
theorem Own.le_cap(w:Own cd c s xs)(y:0<cd.n):xs.length<=s.cap:=by
 have q:=w.2;cases x:s.a with
 | none=>rw[x]at q;rw[q.2];simp
 | some a=>
   rw[x]at q;obtain⟨_,_,rest,_,_,_,_,_,r,_⟩:=q;exact Nat.le_of_mul_le_mul_right (by omega:xs.length*cd.n<=s.cap*cd.n) y
theorem ZLb(o:On h (c::l))(hm:cd.mem=true)(w:Own cd c s xs)(hy:Row cd g t ys)(hg:g.sub h)(D:xs.length+ys.length<=s.cap)(ab:s.a≠none)(hK:∀ (c':Hp) (h':Hp),On h' (c'::l)->Own cd c' ⟨s.a,xs.length+ys.length,s.cap⟩ (xs++ys)->K s.a (xs.length+ys.length) s.cap h'):
 ZR cd e bytes s.a s.len s.cap t.a t.len h K:=by
 unfold ZR;refine ZC5 hy hg ?_;have r:=w.1;have x:=hy.1;refine⟨λhle=>?_,λhlt=>by omega⟩;have hr:=w.2;cases Z:s.a with
 | none=>exact absurd Z ab
 | some a=>
   rw[Z]at hr;obtain⟨V,pre,rest,ZBh,e',fz,hb,q,ac,M⟩:=hr;dsimp only;have Y:(ZO cd ys).length=ys.length*cd.n:=Zi hm ys;have X:(ZO cd xs).length=xs.length*cd.n:=Zi hm xs;have O:(xs.length+ys.length)*cd.n<=s.cap*cd.n:=Xr _ D;rw[Wx]at O;have I:ys.length*cd.n<=rest.length:=by omega
   have G:a.add (s.len*cd.n)=⟨a.block,a.off+s.len*cd.n,none⟩:=ZA5 V _;have y:a.off+s.len*cd.n+t.len*cd.n<=(pre++(ZO cd xs++(rest++ZBh))).length:=by simp only[Xg,q,X,r,x];omega
   rw[G];refine⟨Hp.sub_may (o.2 c (by simp)) (ZBT hb y λk h1 h2=>M k (by omega) ?_),?_⟩
   .rw [r,x]at h2;omega
   ·have o':=o.wrs hb (i:=a.off+s.len*cd.n) (vs:=ZO cd ys) (by rw[Y,<-x];exact y);have E:=hK _ _ o' ?_
    .rw [Z,r]at E;rw[r,x];exact E
    have U:ZE9 (pre++(ZO cd xs++(rest++ZBh))) (a.off+s.len*cd.n) (ZO cd ys)=pre++(ZO cd (xs++ys)++(rest.drop (ys.length*cd.n)++ZBh)):=by
     have hp:(pre++ZO cd xs).length=a.off+s.len*cd.n:=by simp[q,X,r]
     unfold ZE9
     rw[<-Xu pre,<-hp,Wt (Xc _),Xo,<-Yl,XF (Xc _),XY,XV,Y,
         XF I,Zq]
     simp
    rw[U];refine⟨by simp,?_⟩;show match s.a with|none=>_|some a=>_
    rw[Z];refine⟨V,pre,rest.drop (ys.length*cd.n),ZBh,e',fz,by simp[Hp.upd],q,?_,M⟩;simp only[Xg,XN,Wx];omega
theorem ZGC(o:On h (c::l))(X:cd.mem=true)(hn:0<cd.n)(w:Own cd c s xs)(hk:xs.length<=k)(M:k+m<=s.cap)(hm0:0<m){z:cd.T}(hz:zz=cd.n){K:Hp->Prop}(hK:∀ c' h',On h' (c'::l)->Own cd c' s xs->K h'):ZEM cd z (Zh s.a k s.cap zz) m h K:=by
 subst hz;have O:=w.2;unfold Zh;rw[Xd (by omega)];cases I:s.a with
 | none=>rw[I]at O;omega
 | some a=>
   rw[I]at O;obtain⟨E,pre,rest,ZBh,e,fz,V,q,U,y⟩:=O;have G:(ZO cd xs).length=xs.length*cd.n:=Zi X xs;have x:(ZO cd (List.replicate m z)).length=m*cd.n:=by rw[Zi X];simp
   have h1:(k+m)*cd.n<=s.cap*cd.n:=Xr _ M;have h2:xs.length*cd.n<=k*cd.n:=Xr _ hk;rw[Wx]at h1;have r:a.off+k*cd.n+m*cd.n<=(pre++(ZO cd xs++(rest++ZBh))).length:=by simp only[Xg,q,G];omega
   show Hp.may h (a.add (k*cd.n)) (m*cd.n)/\K (h.wrs (a.add (k*cd.n)) 0 (ZO cd (List.replicate m z)));rw[ZA5 E];refine⟨Hp.sub_may (o.2 c (by simp)) (ZBT V r λj h3 h4=>y j (by omega) (by omega)),?_⟩;have o':=o.wrs V (i:=a.off+k*cd.n) (vs:=ZO cd (List.replicate m z)) (by rw[x];exact r);refine hK _ _ o' ⟨w.1,?_⟩;rw[I];have D:ZE9 (pre++(ZO cd xs++(rest++ZBh))) (a.off+k*cd.n) (ZO cd (List.replicate m z))=
    pre++(ZO cd xs++((rest.take (k*cd.n-xs.length*cd.n)++(ZO cd (List.replicate m z)++rest.drop (k*cd.n-xs.length*cd.n+m*cd.n)))++ZBh)):=by
    have Y:rest=rest.take (k*cd.n-xs.length*cd.n)++((rest.drop (k*cd.n-xs.length*cd.n)).take (m*cd.n)++rest.drop (k*cd.n-xs.length*cd.n+m*cd.n)):=by rw[<-Yl,XO,XO]
    have Z:pre++(ZO cd xs++(rest++ZBh))=(pre++(ZO cd xs++rest.take (k*cd.n-xs.length*cd.n)))++((rest.drop (k*cd.n-xs.length*cd.n)).take (m*cd.n)++(rest.drop (k*cd.n-xs.length*cd.n+m*cd.n)++ZBh)):=by
     conv=>lhs;rw[Y]
     simp only[Xu]
    have e3:a.off+k*cd.n=(pre++(ZO cd xs++rest.take (k*cd.n-xs.length*cd.n))).length:=by simp only[Xg,q,G,Xk];omega
    rw[Z,e3,ZHG _ _ _ _ (by rw[x];simp;omega)]
    simp only[Xu]
   rw[D];refine⟨E,pre,rest.take (k*cd.n-xs.length*cd.n)++(ZO cd (List.replicate m z)++rest.drop (k*cd.n-xs.length*cd.n+m*cd.n)),ZBh,e,fz,by simp[Hp.upd],q,?_,y⟩;simp only[Xg,Xk,XN,x];omega
variable {cd cf:Cdc}{g h c:Hp}{s t:Sl}{xs ys:List cd.T}{l:List Hp}
theorem Zz(o:On h (c::l))(hm:cd.mem=true)(hmf:cf.mem=true)(w:Own cd c s xs)(ha:s.a=some a){x0:cd.T}(X:xs[i]?=some x0)(hn:i*cd.n=m){y:cf.T}{x':cd.T}(hx:ZE9 (cd.enc x0).cells.toList k (cf.enc y).cells.toList=(cd.enc x').cells.toList)(hk:k+cf.n<=cd.n){K:Hp->Prop}(hK:∀ c' h',On h' (c'::l)->Own cd c' s (xs.set i x')->K h'):ZS cf ((a.add m).add k) y h K:=by
 subst hn;have Y:i<xs.length:=(Xi.1 X).1;have hxi:xs[i]=x0:=by have:=Xa Y;rw[X]at this;exact(YV this).symm
 have hr:=w.2;rw[ha]at hr;obtain⟨V,pre,rest,ZBh,e,fz,hb,q,D,I⟩:=hr;have E:((cf.enc y).cells.toList).length=cf.n:=by simpa using (ZAo hmf y).1
 have O:((cd.enc x0).cells.toList).length=cd.n:=by simpa using (ZAo hm x0).1
 have Z:(ZO cd xs).length=xs.length*cd.n:=Zi hm xs;have r:ZO cd xs=ZO cd (xs.take i)++((cd.enc x0).cells.toList++ZO cd (xs.drop (i+1))):=by rw[<-hxi,<-ZAc,<-Zq,<-XZ Y,XO]
 have htl:(ZO cd (xs.take i)).length=i*cd.n:=by rw[Zi hm,Xk,Yo (by omega)]
 have M:(i+1)*cd.n<=xs.length*cd.n:=Xr _ Y;rw[Wx,Vs]at M;have G:(a.add (i*cd.n)).add k=⟨a.block,a.off+i*cd.n+k,none⟩:=by rw[ZA5 V,ZCk]
 have x:a.off+i*cd.n+k+cf.n<=(pre++(ZO cd xs++(rest++ZBh))).length:=by simp only[Xg,q,Z];omega
 rw[G];refine⟨Hp.sub_may (o.2 c (by simp)) (ZBT hb x λj h1 h2=>I j (by omega) (by omega)),?_⟩;have o':=o.wrs hb (i:=a.off+i*cd.n+k) (vs:=(cf.enc y).cells.toList) (by rw[E];exact x);refine hK _ _ o' ⟨by rw[w.1];simp,?_⟩;rw[ha];refine⟨V,pre,rest,ZBh,e,fz,?_,q,?_,I⟩
 ·have U:ZE9 (pre++(ZO cd xs++(rest++ZBh))) (a.off+i*cd.n+k) (cf.enc y).cells.toList=pre++(ZO cd (xs.set i x')++(rest++ZBh)):=by
   have e0:(cd.enc x0).cells.toList=(cd.enc x0).cells.toList.take k++(((cd.enc x0).cells.toList.drop k).take cf.n++(cd.enc x0).cells.toList.drop (k+cf.n)):=by rw[<-Yl,XO,XO]
   have e1:pre++(ZO cd xs++(rest++ZBh))=(pre++(ZO cd (xs.take i)++(cd.enc x0).cells.toList.take k))++(((cd.enc x0).cells.toList.drop k).take cf.n++((cd.enc x0).cells.toList.drop (k+cf.n)++(ZO cd (xs.drop (i+1))++(rest++ZBh)))):=by
    rw[r];conv=>lhs;rw[e0]
    simp only[Xu]
   have e2:a.off+i*cd.n+k=(pre++(ZO cd (xs.take i)++(cd.enc x0).cells.toList.take k)).length:=by simp only[Xg,q,htl,Xk,O];omega
   have e3:ZO cd (xs.set i x')=ZO cd (xs.take i)++((cd.enc x').cells.toList++ZO cd (xs.drop (i+1))):=by rw[Uj,Xe Y,Zq,ZAc]
   rw[e1,e2,ZHG _ _ _ _ (by simp[O,E];omega),e3,<-hx];unfold ZE9;rw[E];simp only[Xu]
  rw[<-U];simp[Hp.upd]
 .rw [Xp];exact D
theorem Own.from(w:Own cd c s xs)(hm:cd.mem=true)(hn:0<cd.n)(hk:k<=xs.length)(hz:z=cd.n):Own cd c ⟨Zh s.a k s.cap z,s.len-k,s.cap-k⟩ (xs.drop k):=by
 subst hz;have Z:=w.le_cap hn;refine⟨by simp[w.1],?_⟩;have D:=w.2;show match Zh s.a k s.cap cd.n with
  | none=>_
  | some a=>_
 cases X:s.a with
 | none=>
   rw[X]at D;have:Zh none k s.cap cd.n=none:=by unfold Zh;split<;>rfl
   rw[this];exact⟨by have:=D.1;show s.cap-k=0;omega,by rw[D.2];simp⟩
 | some a=>
   rw[X]at D;obtain⟨E,pre,rest,ZBh,e,fz,Y,r,M,I⟩:=D;unfold Zh;by_cases q:s.cap=k
   .rw [Xe q];have y:xs.drop k=[]:=YT (by omega);rw[y];refine⟨E,pre,[],ZO cd xs++(rest++ZBh),e,fz,Y,r,?_,λj V G=>?_⟩
    .show 0*cd.n+0=(s.cap-k)*cd.n;rw[q,Wz];simp
    .have h0:(s.cap-k)*cd.n=0:=by rw[q,Wz,Nat.zero_mul]
     dsimp only at G;rw[h0]at G;omega
   .rw [Xd q];rw[show (some a).map (λx=>x.add (k*cd.n))=some ⟨a.block,a.off+k*cd.n,none⟩ by rw[WD,ZA5 E]];have U:(ZO cd (xs.take k)).length=k*cd.n:=by rw[Zi hm,Xk,Yo hk]
    have hsub:(s.cap-k)*cd.n=s.cap*cd.n-k*cd.n:=Nat.sub_mul ..;have O:(xs.length-k)*cd.n=xs.length*cd.n-k*cd.n:=Nat.sub_mul ..;have hle:k*cd.n<=xs.length*cd.n:=Xr _ hk;refine⟨rfl,pre++ZO cd (xs.take k),rest,ZBh,e,fz,?_,?_,?_,λj V G=>I j ?_ ?_⟩
    .rw [Y];have:ZO cd xs=ZO cd (xs.take k)++ZO cd (xs.drop k):=by rw[<-Zq,XO]
     rw[this];simp only[Xu]
    .show (pre++ZO cd (xs.take k)).length=a.off+k*cd.n;rw[Xg,r,U]
    .rw [XN];dsimp only;omega
    .dsimp only at V;omega
    .dsimp only at G;omega
theorem On.pick(o:On h l)(M:List Nat)(k:Nat)(X:M.Nodup:=by decide)(V:∀ i∈M,i<k:=by decide):On h (M.filterMap (λi=>l[i]?)++l.drop k):=by
 have key:∀ (i j:Nat) (a b:Hp),i≠j->l[i]?=some a->l[j]?=some b->a.dj b:=by
  intro i j a b r E x;obtain⟨q,rfl⟩:=Xi.1 E;obtain⟨D,rfl⟩:=Xi.1 x;have U:=Vc.1 o.1;rcases Nat.lt_or_gt_of_ne r with h'|h'
  .exact U i j q D h'
  .exact Hp.dj_symm (U j i D q h')
 refine⟨YI.2 ⟨?_,o.1.sublist (List.drop_sublist _ _),?_⟩,?_⟩
 .exact List.pairwise_filterMap.2 (X.imp λr b x Y I=>key _ _ _ _ r x I)
 .intro a E b x;obtain⟨i,q,G⟩:=List.mem_filterMap.1 E;obtain⟨j,O⟩:=Ya x;rw[Wr]at O;exact key i (k+j) a b (by have:=V i q;omega) G O
 .intro c y;rcases Xx.1 y with y|y
  .obtain ⟨i,_,h'⟩:=List.mem_filterMap.1 y;exact o.2 c (Xn h')
  .exact o.2 c (YJ y)
variable {cd cf:Cdc}{g h c:Hp}{s t:Sl}{xs ys:List cd.T}{l:List Hp}
theorem ZIZ(o:On h (c::l))(Z:cd.mem=true)(w:Own cd c s xs)(X:s.a=some a)(hy:Row cd g ⟨src,min n dlen,cap0⟩ ys)(hg:g.sub h)(y:xs.length+ys.length<=s.cap){K:Int->Hp->Prop}(hK:∀ c' h',On h' (c'::l)->Own cd c' ⟨s.a,xs.length+ys.length,s.cap⟩ (xs++ys)->K (min n dlen:Nat) h'):ZBN cd (some (a.add (xs.length*cd.n))) dlen src n h K:=by
 unfold ZBN;refine ZC5 hy hg ?_;have hr:=w.2;rw[X]at hr;obtain⟨I,pre,rest,ZBh,e',fz,Y,q,V,D⟩:=hr;have M:(ZO cd xs).length=xs.length*cd.n:=Zi Z xs;have U:(ZO cd ys).length=ys.length*cd.n:=Zi Z ys;have E:(xs.length+ys.length)*cd.n<=s.cap*cd.n:=Xr _ y;rw[Wx]at E;have O:min n dlen=ys.length:=hy.1;have x:a.add (xs.length*cd.n)=⟨a.block,a.off+xs.length*cd.n,none⟩:=ZA5 I _;have r:a.off+xs.length*cd.n+ys.length*cd.n<=(pre++(ZO cd xs++(rest++ZBh))).length:=by simp only[Xg,q,M];omega
 dsimp only;rw[x];refine⟨Hp.sub_may (o.2 c (by simp)) (ZBT Y (by rw[O];exact r) λk h1 h2=>D k (by omega) (by rw[O]at h2;omega)),?_⟩;have o':=o.wrs Y (i:=a.off+xs.length*cd.n) (vs:=ZO cd ys) (by rw[U];exact r);refine hK _ _ o' ⟨by simp,?_⟩;show match s.a with|none=>_|some a=>_
 rw[X];have G:ZE9 (pre++(ZO cd xs++(rest++ZBh))) (a.off+xs.length*cd.n) (ZO cd ys)=pre++(ZO cd (xs++ys)++(rest.drop (ys.length*cd.n)++ZBh)):=by
  have hp:(pre++ZO cd xs).length=a.off+xs.length*cd.n:=by simp[q,M]
  unfold ZE9;rw[<-Xu pre,<-hp,Wt (Xc _),Xo,<-Yl,XF (Xc _),XY,XV,U,
   XF (by omega),Zq]
  simp
 rw[G];refine⟨I,pre,rest.drop (ys.length*cd.n),ZBh,e',fz,by simp[Hp.upd],q,?_,D⟩;simp only[Xg,XN,Wx];omega
theorem ZN2(o:On h (c::l))(V:cd.mem=true)(w:Own cd c s xs)(ha:s.a=some a)(hy:Row cd g ⟨src,min n dlen,cap0⟩ ys)(hg:g.sub h)(hk:k+ys.length<=xs.length){K:Int->Hp->Prop}(hK:∀ c' h',On h' (c'::l)->Own cd c' s (xs.take k++(ys++xs.drop (k+ys.length)))->K (min n dlen:Nat) h'):ZBN cd (some (a.add (k*cd.n))) dlen src n h K:=by
 unfold ZBN;refine ZC5 hy hg ?_;have hr:=w.2;rw[ha]at hr;obtain⟨M,pre,rest,ZBh,e',fz,hb,q,x,D⟩:=hr;have Z:(ZO cd xs).length=xs.length*cd.n:=Zi V xs;have U:(ZO cd ys).length=ys.length*cd.n:=Zi V ys;have G:(k+ys.length)*cd.n<=xs.length*cd.n:=Xr _ hk;rw[Wx]at G;have O:min n dlen=ys.length:=hy.1;have y:a.add (k*cd.n)=⟨a.block,a.off+k*cd.n,none⟩:=ZA5 M _;have Y:(ZO cd (xs.take k)).length=k*cd.n:=by rw[Zi V,Xk,Yo (by omega)]
 have X:(ZO cd ((xs.drop k).take ys.length)).length=ys.length*cd.n:=by rw[Zi V,Xk,XN,Yo (by omega)]
 have r:a.off+k*cd.n+ys.length*cd.n<=(pre++(ZO cd xs++(rest++ZBh))).length:=by simp only[Xg,q,Z];omega
 dsimp only;rw[y];refine⟨Hp.sub_may (o.2 c (by simp)) (ZBT hb (by rw[O];exact r) λj h1 h2=>D j (by omega) (by rw[O]at h2;omega)),?_⟩;have o':=o.wrs hb (i:=a.off+k*cd.n) (vs:=ZO cd ys) (by rw[U];exact r);have E:(xs.take k++(ys++xs.drop (k+ys.length))).length=xs.length:=by simp;omega
 refine hK _ _ o' ⟨by rw[E];exact w.1,?_⟩;rw[ha];have I:ZE9 (pre++(ZO cd xs++(rest++ZBh))) (a.off+k*cd.n) (ZO cd ys)=pre++(ZO cd (xs.take k++(ys++xs.drop (k+ys.length)))++(rest++ZBh)):=by
  have e1:xs=xs.take k++((xs.drop k).take ys.length++xs.drop (k+ys.length)):=by rw[<-Yl,XO,XO]
  have e2:pre++(ZO cd xs++(rest++ZBh))=(pre++ZO cd (xs.take k))++(ZO cd ((xs.drop k).take ys.length)++(ZO cd (xs.drop (k+ys.length))++(rest++ZBh))):=by
   conv=>lhs;rw[e1]
   rw[Zq,Zq];simp only[Xu]
  have e3:a.off+k*cd.n=(pre++ZO cd (xs.take k)).length:=by rw[Xg,q,Y]
  rw[e2,e3,ZHG _ _ _ _ (by rw[X,U]),Zq,Zq];simp only[Xu]
 rw[I];refine⟨M,pre,rest,ZBh,e',fz,by simp[Hp.upd],q,?_,D⟩;rw[E];exact x
def Clo{A:Type}(P:Program)(cc:List Hp)(f:FnV)(args:A->List Value)(c:Cdc)(φ:A->c.T):Prop:=
 ∀ (x:A) (h:Hp) (l:List Hp) (Q:c.T->Hp->Prop),(∀ p∈cc,p∈l)->On h l->(∀ h',On h' l->Q (φ x) h')->ZBe P f.g f.first f.cap (args x) c h Q
def ZMT:Option Nat->Int
 | none=>-1
 | some i=>i
theorem ZI5(a:Option Addr)(cap z:Nat):Zh a 0 cap z=a:=by
 unfold Zh;split
 .rfl
 .cases a<;>simp
variable {Q:Sl->Hp->Prop}
theorem ZEa(o:On h l)(X:g∈l)(r:Row cd g t ys)(Y:cd.mem=true)(x:0<cd.n)(V:bytes<=1024)(hl:ys.length<=1000000)(G:∀ s d h',On h' (d::l)->Own cd d s ys->Q s h'):
 ZB t.a.isNone (Q ⟨none,0,0⟩ h) (ZJ (.cells #[] e) h λk1 E=>ZR cd e bytes (some ⟨k1,0,none⟩) 0 0 t.a t.len E λp1 y D M=>Q ⟨p1,y,D⟩ M):=by
 refine ZD (λx=>?_) λ_=>?_
 .have U:t.a=none:=YG.1 x;have:ys=[]:=by have:=r.2;rw[U]at this;exact this
  subst this;exact G _ Hp.emp h o.emp (Own.nil _)
 .refine ZH (vs:=[]) o λk1 E I=>?_;have w0:Own cd (ob k1 [] e) ⟨some ⟨k1,0,none⟩,0,0⟩ []:=ZAx (cd:=cd) (xs:=[]) (rest:=[]) rfl rfl (by simp);have q:(0+ys.length)*bytes<=ZAW:=by rw[Vp];exact XG (Vy hl V) (by unfold ZAW;omega)
  exact ZW (g:=g) (s:=⟨some ⟨k1,0,none⟩,0,0⟩) (t:=t) I Y w0 x r (I.mem (by simp[X])) (by simpa using q) λc p y D O Z w3=>G ⟨p,y,D⟩ c O Z (by simpa using w3)
theorem ZJL{zero:cd.T}(o:On h (c::l))(w:Own cd c s xs)(M:cd.mem=true)(hn:0<cd.n)(hz:z=cd.n)(hij:i<=j)(hj:j<=xs.length)(Y:∀ s' c' h',On h' (c'::l)->Own cd c' s' (xs.take i++xs.drop j)->Q s' h'):
 ZIp s.cap (some (i:Int)) (j:Int) (s.len:Int) λ_ _ _=>ZB ((i:Int)==(j:Int)) (Q s h) (Z3 s.len s.cap none (some (i:Int)) λk4 k5=>Z3 s.len s.cap (some (j:Int)) none λk6 k7=>
  ZR cd e bytes (Zh s.a k4 s.cap z) (k5-k4) (s.cap-k4) (Zh s.a k6 s.cap z) (k7-k6) h λp1 y D O=>Z3 y D (some (y:Int)) (some (s.len:Int)) λr x=>ZEM cd zero (Zh p1 r D z) (x-r) O λE=>Q ⟨p1,y,D⟩ E):=by
 have q:s.len=xs.length:=w.1;have G:=w.le_cap hn;refine⟨by omega,by omega,by omega,by omega,by omega,?_⟩;refine ZD (λX=>?_) λI=>?_
 .have X:i=j:=by
   have:(i:Int)=(j:Int):=by simpa using X
   omega
  subst X;rw[XO]at Y;exact Y s c h o w
 .have I:i≠j:=by
   have:¬(i:Int)=(j:Int):=by simpa using I
   omega
  have U:s.a≠none:=by intro ha;have:=w.2;rw[ha]at this;rw[this.2]at hj;simp at hj;omega
  refine⟨by omega,by omega,by omega,by omega,?_⟩;simp only[XD,Yz];rw[ZI5];have w0:Own cd c ⟨s.a,i,s.cap⟩ (xs.take i):=w.head M (by omega);have r1:Row cd c ⟨Zh s.a j s.cap z,s.len-j,s.cap⟩ (xs.drop j):=by have:=(w.row).cut (k:=j) (m:=s.len) (cap':=s.cap) (by omega) (by omega) G M (z:=z) hz;rw[q,XU (by simp)]at this;rwa[q]
  have V:(xs.drop j).length=s.len-j:=by rw[XN,q]
  have Z:(xs.take i).length=i:=by rw[Xk];omega
  have key:=ZLb (e:=e) (bytes:=bytes) (s:=⟨s.a,i,s.cap⟩) (t:=⟨Zh s.a j s.cap z,s.len-j,s.cap⟩) o M w0 r1 (o.get (i:=0) rfl) (by rw[Z,V];dsimp only;omega) U
   (K:=λp1 y D O=>Z3 y D (some (y:Int)) (some (s.len:Int)) λr x=>ZEM cd zero (Zh p1 r D z) (x-r) O λE=>Q ⟨p1,y,D⟩ E) λd' h' o' w'=>?_
  .exact key
  .rw [Z,V]at w' ⊢;refine⟨by omega,by omega,by dsimp only;omega,?_⟩;have hl2:(xs.take i++xs.drop j).length=i+(s.len-j):=by rw[Xg,Z,V]
   dsimp only;refine ZGC (s:=⟨s.a,i+(s.len-j),s.cap⟩) (xs:=xs.take i++xs.drop j) o' M hn w' (k:=((i+(s.len-j):Nat):Int).toNat) (m:=(s.len:Int).toNat-((i+(s.len-j):Nat):Int).toNat) (by omega) (by dsimp only;omega) (by omega) hz λc2 E o2 w2=>?_;exact Y _ c2 E o2 w2
theorem ZEQ{f:FnV}{cc:List Hp}{φ:cd.T->Bool}(hf:Clo P cc f (λx=>[cd.enc x]) cB φ)(o:On h l)(O:∀ p∈cc,p∈l)(hg:g∈l)(r:Row cd g t ys)(hm:cd.mem=true)(hz:z=cd.n)(hl:ys.length<=1000000){Q:Int->Hp->Prop}(Y:∀ h',On h' l->Q (ZMT (ys.findIdx? φ)) h'):
 Ze (0:Int) h λZ G E=>ZB (decide (G<(t.len:Int))) (Zb t.a t.len G λa1=>ZC cd (a1.add (G.toNat*z)) E λx1=>ZBe P f.g f.first f.cap [cd.enc x1] cB E λt1 I=>ZB t1 (Q G I) (Z (IntKind.i64.wrap (G+1)) I)) (Q (-1) E):=by
 have X:=r.1;refine Zc (λz h'=>∃ i:Nat,z=i/\i<=ys.length/\On h' l/\∀ x∈ys.take i,φ x=false) (λz=>ys.length-z.toNat) ⟨0,rfl,Xh _,o,λx y=>by cases y⟩ ?_;rintro J n E D ⟨i,rfl,hle,U,q⟩
 refine ZG (λhlt=>?_) λhge=>?_
 ·have V:i<ys.length:=by omega
  have a0:ys[i]?=some ys[i]:=Xa V;refine ZN r (Xb i) (by omega) λa ha=>ZQ r (U.mem hg) hm ha (i:=i) a0 (by simp[hz]) ?_;refine hf ys[i] E l _ O U λI o2=>?_;refine ZD (λe=>?_) λe=>?_
  .have M:ys.findIdx? φ=some i:=WA.2 ⟨V,e,λj hj=>by
    have:=q ys[j] (YH.2 ⟨j,by omega,rfl⟩);rw[this];simp⟩
   have:=Y I o2;rw[M]at this;exact this
  .refine D _ _ ⟨i+1,Z1 (by omega),by omega,o2,?_⟩ (by rw[Z1 (by omega)];omega);intro x y;rw[XH,a0]at y;rcases Xx.1 y with y|y
   .exact q x y
   .simp at y;subst y;exact e
 .have:i=ys.length:=by omega
  subst this;rw[Xo]at q;have M:ys.findIdx? φ=none:=WL.2 q;have:=Y E U;rw[M]at this;exact this
theorem Zap{a b:Nat}(x:a<=1000000)(y:b<=1000000):IntKind.i64.wrap (ZBK IntKind.u64 (IntKind.u64.wrap (IntKind.i64.wrap ((a:Int)+(b:Int)))) 1)=(((a+b) / 2:Nat):Int):=by
 rw[show IntKind.i64.wrap ((a:Int)+(b:Int))=(a:Int)+(b:Int) from w64 (by omega) (by omega)];have q:IntKind.u64.wrap ((a:Int)+(b:Int))=((a+b:Nat):Int):=by simp[IntKind.wrap,IntKind.signed,IntKind.bits];omega
 rw[q];have r:ZBK IntKind.u64 ((a+b:Nat):Int) 1=(((a+b) / 2:Nat):Int):=by show (((a+b:Nat):Int)).fdiv (2 ^ 1)=_;rw[WG _ (by decide)];omega
 rw[r,w64 (by omega) (by omega)]
theorem ZFQ{f:FnV}{cc:List Hp}{θ:cd.T->Int}(hf:Clo P cc f (λx=>[cd.enc x,tv]) (cI .i64) θ)(o:On h l)(ac:∀ p∈cc,p∈l)(hg:g∈l)(r:Row cd g t ys)(hm:cd.mem=true)(hz:z=cd.n)(hl:ys.length<=1000000){Q:Int×Bool->Hp->Prop}(G:∀ (i:Nat) h',i<=ys.length->(∀ k,(∀ x∈ys.take k,θ x<0)->(∀ x∈ys.drop k,0<=θ x)->k<=ys.length->i=k)->On h' l->Q ((i:Int),((ys[i]?).map λx=>θ x==0).getD false) h'):
 Ze ((0:Int),(t.len:Int)) h λJ1 q y=>ZB (decide (q.1<q.2))
  (ZT (λz2 D=>J1 (z2.1,z2.2) D) fun (J2:Int×Int->Hp->Prop)=>0<=(1:Int)/\Zb t.a t.len (IntKind.i64.wrap (ZBK IntKind.u64 (IntKind.u64.wrap (IntKind.i64.wrap (q.1+q.2))) 1)) λa1=>
    ZC cd (a1.add ((IntKind.i64.wrap (ZBK IntKind.u64 (IntKind.u64.wrap (IntKind.i64.wrap (q.1+q.2))) 1)).toNat*z)) y λx1=>ZBe P f.g f.first f.cap [cd.enc x1,tv] (cI .i64) y λ(n1:Int) V=>
     ZB (decide (n1<0)) (J2 (IntKind.i64.wrap (IntKind.i64.wrap (ZBK IntKind.u64 (IntKind.u64.wrap (IntKind.i64.wrap (q.1+q.2))) 1)+1),q.2) V) (J2 (q.1,IntKind.i64.wrap (ZBK IntKind.u64 (IntKind.u64.wrap (IntKind.i64.wrap (q.1+q.2))) 1)) V))
  (ZB (decide (q.1<(t.len:Int))) (Zb t.a t.len q.1 λa2=>ZC cd (a2.add (q.1.toNat*z)) y λx2=>ZBe P f.g f.first f.cap [cd.enc x2,tv] (cI .i64) y λ(n2:Int) Y=>Q (q.1,n2==0) Y) (Q (q.1,false) y)):=by
 have ae:=r.1;refine Zc (λz h'=>∃ a b:Nat,z=((a:Int),(b:Int))/\a<=b/\b<=ys.length/\On h' l/\∀ k,(∀ x∈ys.take k,θ x<0)->(∀ x∈ys.drop k,0<=θ x)->k<=ys.length->a<=k/\k<=b) (λz=>z.2.toNat-z.1.toNat)
  ⟨0,ys.length,by rw[ae];rfl,Xh _,Xc _,o,λk _ _ X=>⟨Xh _,X⟩⟩ ?_
 rintro J q y I ⟨a,b,rfl,hab,hb,o1,X⟩
 dsimp only;refine ZG (λah=>?_) λhge=>?_
 ·have ah:a<b:=by omega
  have E:=Zap (a:=a) (b:=b) (by omega) (by omega);generalize hM:(a+b) / 2=M at E;rw[E];have hM1:a<=M:=by omega
  have hM2:M<b:=by omega
  refine ZI (λz h'=>∃ a' O:Nat,z=((a':Int),(O:Int))/\a'<=O/\O<=ys.length/\On h' l/\(∀ k,(∀ x∈ys.take k,θ x<0)->(∀ x∈ys.drop k,0<=θ x)->k<=ys.length->a'<=k/\k<=O)/\O-a'<b-a) ?_ λJ2 Z=>?_
  .rintro z2 D ⟨a',O,rfl,h1',h2',o2,hk',hlt'⟩;exact I _ _ ⟨a',O,rfl,h1',h2',o2,hk'⟩ (by dsimp only;omega)
  .have hi:M<ys.length:=by omega
   have a0:ys[M]?=some ys[M]:=Xa hi;refine⟨by decide,?_⟩;refine ZN r (Xb M) (by omega) λp hp=>ZQ r (o1.mem hg) hm hp (i:=M) a0 (by simp[hz]) ?_;refine hf ys[M] y l _ ac o1 λD o2=>?_;refine ZG (λhneg=>?_) λhnn=>?_
   .rw [Z1 (by omega)];refine Z _ _ ⟨M+1,b,rfl,by omega,hb,o2,λk k1 k2 k3=>?_,by omega⟩;have U:=X k k1 k2 k3;refine⟨?_,U.2⟩;rcases WB M k with h'|h'
    .exact h'
    .exfalso;have:=k2 ys[M] (List.mem_drop_iff_getElem.2 ⟨M-k,by omega,by congr 1;omega⟩);omega
   .refine Z _ _ ⟨a,M,rfl,hM1,by omega,o2,λk k1 k2 k3=>?_,by omega⟩;have U:=X k k1 k2 k3;refine⟨U.1,?_⟩;rcases WB M k with h'|h'
    .exfalso;have:=k1 ys[M] (YH.2 ⟨M,by omega,rfl⟩);omega
    .exact h'
 .have ab:a=b:=by omega
  subst ab;refine ZG (λah=>?_) λhge=>?_
  .have hi:a<ys.length:=by omega
   have a0:ys[a]?=some ys[a]:=Xa hi;refine ZN r (Xb a) (by omega) λp hp=>ZQ r (o1.mem hg) hm hp (i:=a) a0 (by simp[hz]) ?_;refine hf ys[a] y l _ ac o1 λD o2=>?_;have G:=G a D hb (λk D V Y=>by have:=X k D V Y;omega) o2;rw[a0]at G;exact G
  .have G:=G a y hb (λk D V Y=>by have:=X k D V Y;omega) o1;rw[XP (by omega)]at G;exact G
variable {cd cf:Cdc}{g h c:Hp}{s t:Sl}{xs ys:List cd.T}{l:List Hp}
theorem ZUm{z:cd.T}{len:Nat}{a:Option Addr}{n:Int}(o:On h l)(O:g.sub h)(I:Row cd g ⟨a,len,cap0⟩ ys)(h0:0<=n)(G:cap<len+n.toNat)(q:(len+n.toNat)*bytes<=ZAW)(M:∀ D r d h',On h' (d::l)->Own cd d ⟨some ⟨D,0,none⟩,len,r⟩ ys->len+n.toNat<=r->K (some ⟨D,0,none⟩) (len+n.toNat) r h'):ZHV cd z e bytes a len cap n h K:=by
 refine⟨h0,XG (Xr _ (Nat.le_add_left _ _)) q,λV=>by omega,λ_=>⟨q,?_⟩⟩;refine ZC5 (s:=⟨a,len,cap0⟩) I O ?_;intro r y E x;refine ZH (vs:=ZO cd ys++y) o λD h' U=>?_;have hl:len=ys.length:=I.1;refine M D r _ h' U (ZAx (rest:=y) rfl hl ?_) E;rw[x,<-hl,<-Wx,show len+(r-len)=r by omega]
theorem ZNd{f:FnV}{cc:List Hp}{φ:cd.T->Bool}{zero:cd.T}(hf:Clo P cc f (λx=>[cd.enc x]) cB φ)(o:On h (c::l))(hcc:∀ p∈cc,p∈l)(w:Own cd c s xs)(hm:cd.mem=true)(hn:0<cd.n)(hz:z=cd.n)(hl:xs.length<=1000000)(hq:∀ s' c' h',On h' (c'::l)->Own cd c' s' (xs.filter λx=>!φ x)->Q s' h'):
 ZB (ZMT (xs.findIdx? φ)==-1) (Q s h) (Ze (ZMT (xs.findIdx? φ),IntKind.i64.wrap (ZMT (xs.findIdx? φ)+1)) h fun (J1:Int×Int->Hp->Prop) y G=>ZB (decide (y.2<(s.len:Int)))
  (ZT (λ(n2:Int) h3=>J1 (n2,IntKind.i64.wrap (y.2+1)) h3) λJ2=>Zb s.a s.len y.2 λa1=>ZC cd (a1.add (y.2.toNat*z)) G λx1=>ZBe P f.g f.first f.cap [cd.enc x1] cB G λt1 h4=>
    ZB (!t1) (Zb s.a s.len y.1 λa2=>ZS cd (a2.add (y.1.toNat*z)) x1 h4 λh5=>J2 (IntKind.i64.wrap (y.1+1)) h5) (J2 y.1 h4))
  (Z3 s.len s.cap (some y.1) none λk1 k2=>ZEM cd zero (Zh s.a k1 s.cap z) (k2-k1) G λh6=>Z3 s.len s.cap none (some y.1) λk3 k4=>Q ⟨Zh s.a k3 s.cap z,k4-k3,s.cap-k3⟩ h6)):=by
 have hlen:s.len=xs.length:=w.1;have hcap:=w.le_cap hn;cases hi:xs.findIdx? φ with
 | none=>
   have M:=WL.1 hi;have e:(xs.filter λx=>!φ x)=xs:=Vv.2 λx hx=>by rw[M x hx];rfl
   rw[e]at hq;exact Zf rfl (hq s c h o w)
 | some i=>
   obtain⟨hi1,hi2,hi3⟩:=WA.1 hi;show ZB ((i:Int)==-1) _ (Ze ((i:Int),IntKind.i64.wrap ((i:Int)+1)) h _);rw[Z1 (by omega)];refine ZU (by simp) ?_;have X:(xs.take i).filter (λx=>!φ x)=xs.take i:=Vv.2 λx hx=>by obtain⟨j,hj,rfl⟩:=YH.1 hx;have:=hi3 j (by omega);simpa using this
   refine Zc (λz h'=>∃ (a j:Nat) (ys:List cd.T) (c':Hp),z=((a:Int),(j:Int))/\a<j/\j<=xs.length/\On h' (c'::l)/\Own cd c' s ys/\ys.take a=(xs.take j).filter (λx=>!φ x)/\ys.drop j=xs.drop j/\ys.length=xs.length) (λz=>xs.length-z.2.toNat)
    ⟨i,i+1,xs,c,rfl,by omega,by omega,o,w,?_,rfl,rfl⟩ ?_
   .rw [XH,Xa hi1,WE,X];simp[hi2]
   rintro J1 y G D ⟨a,j,ys,c',rfl,haj,hj,o2,E,Y,hd,Z⟩
   dsimp only;refine ZG (λhlt=>?_) λhge=>?_
   ·have U:j<xs.length:=by omega
    have hjy:ys[j]?=some xs[j]:=by have:=congrArg (λl=>l[0]?) hd;simpa[Wr,U]using this
    refine ZI (λn h'=>∃ (a':Nat) (q:List cd.T) (c2:Hp),n=(a':Int)/\a'<j+1/\On h' (c2::l)/\Own cd c2 s q/\q.take a'=(xs.take (j+1)).filter (λx=>!φ x)/\q.drop (j+1)=xs.drop (j+1)/\q.length=xs.length) ?_ λJ2 I=>?_
    .rintro n h3 ⟨a',q,c2,rfl,h31,o3,w3,t3,d3,l3⟩;rw[Z1 (by omega)];exact D _ _ ⟨a',j+1,q,c2,rfl,h31,by omega,o3,w3,t3,d3,l3⟩ (by dsimp only;omega)
    .refine ZN E.row (Xb j) (by omega) λp V=>ZQ E.row (o2.mem (by simp)) hm V (i:=j) hjy (by simp[hz]) ?_;refine hf xs[j] G (c'::l) _ (λp V=>by simp[hcc p V]) o2 λh4 o4=>?_;have r:(xs.take (j+1)).filter (λx=>!φ x)=(xs.take j).filter (λx=>!φ x)++if φ xs[j]=true then [] else [xs[j]]:=by rw[XH,Xa U,WE];cases hφ:φ xs[j]<;>simp[hφ]
     have O:ys.drop (j+1)=xs.drop (j+1):=by rw[<-Yl,hd,Yl]
     refine ZD (λe=>?_) λe=>?_
     .have e:φ xs[j]=false:=by simpa using e
      refine ZN E.row (Xb a) (by omega) λp V=>?_;refine ZA4 o4 hm E V (i:=a) (by omega) (by simp[hz]) λc5 h5 o5 w5=>?_;rw[Z1 (by omega)];refine I _ _ ⟨a+1,ys.set a xs[j],c5,rfl,by omega,o5,w5,?_,?_,by simp[Z]⟩
      .rw [r,e,XH];simp only[XM (show a<ys.length by omega)];rw[Uc (Xc a),Y];simp
      .rw [Ue (by omega)];exact O
     .have e:φ xs[j]=true:=by simpa using e
      refine I _ _ ⟨a,ys,c',rfl,by omega,o4,E,?_,O,Z⟩;rw[r,e,Y];simp
   .have hjl:j=xs.length:=by omega
    subst hjl;rw[Xo]at Y;refine⟨by omega,by omega,?_⟩;rw[XD];have w3:=E.head hm (k:=a) (by omega);rw[Y]at w3;have ha:(xs.filter λx=>!φ x).length=a:=by rw[<-Y,Xk];omega
    refine ZGC (s:=⟨s.a,a,s.cap⟩) o2 hm hn w3 (k:=a) (m:=s.len-a) (by omega) (by dsimp only;omega) (by omega) hz λc6 h6 o6 w6=>?_;refine⟨by omega,by omega,?_⟩;rw[XD];dsimp only;rw[Yz,Yz,ZI5];exact hq _ c6 h6 o6 w6
open Go.Sort Go.Proofs
theorem ZH7{α:Type}{k:Nat}(enc:α->List Value)(q:∀ x,(enc x).length=k):∀ l:List α,(l.flatMap enc).length=l.length*k
 | []=>by simp
 | x::l=>by rw[Yx,Xg,q,ZH7 enc q l,XI,Nat.succ_mul,VN]
section
variable {α:Type}[Inhabited α]
theorem ZIE{k:Nat}(enc:α->List Value)(q:∀ x,(enc x).length=k):∀ (l:List α) (t:Nat),t<l.length*k->(l.flatMap enc)[t]?=(enc l[t / k]!)[t % k]?
 | [],t,h=>by simp at h
 | x::l,t,h=>by
   rw[Yx];by_cases r:t<k
   .rw [XR (by rw[q];exact r),Nat.div_eq_of_lt r,YO r];rfl
   .rw [XJ (by rw[q];omega),q];have k0:0<k:=by
     rcases Vo k with e|e
     .subst e;simp at h
     .exact e
    have E:=ZIE enc q l (t-k) (by rw[XI,Nat.succ_mul]at h;omega);have y:t / k=(t-k) / k+1:=Nat.div_eq_sub_div k0 (by omega);have D:t % k=(t-k) % k:=Vz (by omega);rw[E,y,D];rfl
theorem ZH2(enc:α->List Value)(r:∀ x,(enc x).length=k)(d:Array α):(flatK enc k d).toList=d.toList.flatMap enc:=by
 apply YX;intro t;by_cases q:t<d.size*k
 .rw [ZIE enc r d.toList t (by simpa using q)];have y:=get_flatK enc k d t q;have E:t<(flatK enc k d).size:=by rw[size_flatK];exact q
  have k0:0<k:=by
   rcases Vo k with e|e
   .subst e;simp at q
   .exact e
  have G:t % k<(enc d.toList[t / k]!).length:=by rw[r];exact VM _ k0
  rw[Xa G,Vr,Yr E];rw[getElem!_pos _ t E]at y;rw[y];have D:t / k<d.size:=Nat.div_lt_of_lt_mul (by rw[Yv];exact q);have e:d.toList[t / k]! = d[t / k]! := by rw[getElem!_pos d.toList (t / k) (by simpa using D),getElem!_pos d (t / k) D];exact Array.getElem_toList _
  congr 1;rw[getElem!_pos _ _ (by rw[r];exact VM _ k0)];simp only[e]
 .rw [XP (by rw[Yn,size_flatK];omega),XP (by rw[ZH7 enc r];simpa using q)]
theorem ZVf{blk off:Nat}{F:Array Value}{pre tail:List Value}(r:w.heap[blk]?=some (.cells (pre++(F.toList++tail)).toArray e fz))(D:pre.length=off)(x:∀ j,off<=j->j<off+F.size->¬(fz.1<=j/\j<fz.2)):Holds id w blk off F:=by
 intro j q;have y:(pre++(F.toList++tail))[off+j]?=some F[j]! := by rw[XJ (by omega),D,Nat.add_sub_cancel_left,XR (by simpa using q),Vr,Yr q,getElem!_pos _ j q]
 refine⟨?_,?_⟩
 .unfold World.cell?;simp only[r];simpa using y
 .unfold World.frozen?;simp only[r];have:=x (off+j) (by omega) (by omega);simpa using this
theorem Zas{off:Nat}{F q:Array Value}{pre tail:List Value}(E:pre.length=off)(G:q.size=F.size):putCells id off q (pre++(F.toList++tail)).toArray=(pre++(q.toList++tail)).toArray:=by
 apply Array.ext_getElem?;intro j;unfold putCells;rw[Array.getElem?_mapIdx];simp only[List.getElem?_toArray];by_cases I:j<off
 .have e:∀ X:List Value,(pre++(X++tail))[j]?=pre[j]?:=λX=>XR (by omega);rw[e,e,Xa (by omega)];simp only[WD];rw[Xd (by omega)]
 ·have e:∀ X:List Value,(pre++(X++tail))[j]?=(X++tail)[j-off]?:=λX=>by rw[XJ (by omega),E]
  rw[e,e];by_cases M:j<off+F.size
  .have D:j-off<F.size:=by omega
   have r:j-off<q.size:=by omega
   have x:(F.toList++tail)[j-off]?=F[j-off]?:=by rw[XR (by simpa using D),Vr]
   have y:(q.toList++tail)[j-off]?=q[j-off]?:=by rw[XR (by simpa using r),Vr]
   rw[x,y,Yr D,Yr r];simp only[WD,id_eq];rw[Xe ⟨by omega,by omega⟩,getElem!_pos q (j-off) r]
  ·have x:(F.toList++tail)[j-off]?=tail[j-off-F.size]?:=by rw[XJ (by rw[Yn];omega),Yn]
   have y:(q.toList++tail)[j-off]?=tail[j-off-F.size]?:=by rw[XJ (by rw[Yn];omega),Yn,G]
   rw[x,y];cases tail[j-off-F.size]? with
   | none=>rfl
   | some v=>
     simp only[WD];rw[Xd (by omega)]
theorem ZTJ{enc:α->List Value}{d:Array α}{Good:Array α->Prop}{blk off:Nat}{pre tail:List Value}(Z:∀ x,(enc x).length=k)(o:On h (c::l))(hb:c blk=some (.cells (pre++(d.toList.flatMap enc++tail)).toArray e fz))(hp:pre.length=off)(hf:∀ j,off<=j->j<off+d.size*k->¬(fz.1<=j/\j<fz.2))(H:∀ w:World,Go.Sort.HoldsK enc k w blk off d->blk<w.heap.size->Calls P f args.toArray w λe w'=>e=.returned (.tuple #[])/\∃ r n os,Good r/\r.size=d.size/\w'=Go.Proofs.sortWorldK enc k w blk off n r os){Q:Unit->Hp->Prop}(hq:∀ r c' h',On h' (c'::l)->c' blk=some (.cells (pre++(r.toList.flatMap enc++tail)).toArray e fz)->Good r->r.size=d.size->Q () h'):ZA P f args (ZV []) h Q:=by
 intro w fr hw Y E;have D:=o.mem (by simp) blk _ hb;have I:=hw blk _ D;have U:blk<w.heap.size:=(Yc.1 I).1;have hH:HoldsK enc k w blk off d:=by
  refine ZVf (pre:=pre) (tail:=tail) (e:=e) (fz:=fz) ?_ hp ?_
  .rw [ZH2 enc Z];exact I
  .rw [size_flatK];exact hf
 refine(H w hH U).mono ?_;rintro ex w' ⟨rfl,r,n,os,hg,V,rfl⟩;have O:∀ b,b<w.heap.size->b≠blk->(sortWorldK enc k w blk off n r os).heap[b]?=w.heap[b]?:=by intro b X ab;unfold sortWorldK putRowK putRow mapBlock grow;show ((w.heap.modify blk _)++os)[b]?=_;rw[VB (by rw[Array.size_modify];exact X),Yt,Xd (λe=>ab e.symm)]
 have G:(sortWorldK enc k w blk off n r os).heap[blk]?=some (.cells (pre++(r.toList.flatMap enc++tail)).toArray e fz):=by unfold sortWorldK putRowK putRow mapBlock grow;show ((w.heap.modify blk _)++os)[blk]?=_;rw[VB (by rw[Array.size_modify];exact U),Yt,Xe rfl,I];simp only[WD,onCells];rw[<-ZH2 enc Z d,Zas hp (by rw[size_flatK,size_flatK,V]),ZH2 enc Z r]
 refine⟨_,h.upd blk (.cells (pre++(r.toList.flatMap enc++tail)).toArray e fz),rfl,⟨(),rfl,hq r _ _ (o.upd hb _) (by simp[Hp.upd]) hg V⟩,?_,?_,?_,⟨rfl,rfl,rfl⟩⟩
 .intro b o' y;unfold Hp.upd at y;by_cases q:b=blk
  .subst q;rw[Xe rfl]at y;cases y;exact G
  .rw [Xd q]at y;have M:=hw b o' y;rw[O b (Yc.1 M).1 q];exact M
 .intro b o' y;have q:b≠blk:=by
   rintro rfl;rcases E b with e1|e1
   .rw [D]at e1;cases e1
   .rw [e1]at y;cases y
  have M:=Y b o' y;rw[O b (Yc.1 M).1 q];exact M
 .intro b;unfold Hp.upd;by_cases q:b=blk
  .subst q;rcases E b with e1|e1
   .rw [D]at e1;cases e1
   .exact .inr e1
  .rw [Xd q];exact E b
end
def ZE3(P:Program):Nat->List FuncId->List FuncId->Option (List FuncId)
 | _,[],seen=>some seen.reverse
 | 0,_::_,_=>none
 | n+1,f::todo,seen=>
   if seen.contains f then ZE3 P n todo seen
   else ZE3 P n ((P.funcs[f]?).elim [] P.leadsTo++todo) (f::seen)
theorem ZGN{P:Program}:∀ (n:Nat) (q seen:List FuncId) (L:List FuncId),ZE3 P n q seen=some L->∀ m,n<=m->P.closureVia m q seen=L
 | 0,[],seen,L,h,m,_=>by
   have h:some seen.reverse=some L:=h;cases h;cases m<;>rfl
 | 0,_::_,_,_,h,_,_=>by cases h
 | n+1,[],seen,L,h,m,_=>by
   have h:some seen.reverse=some L:=h;cases h;cases m<;>rfl
 | n+1,f::q,seen,L,h,m,hm=>by
   obtain⟨m,rfl⟩:∃ k,m=k+1:=⟨m-1,by omega⟩
   unfold ZE3 at h;unfold Program.closureVia;by_cases r:seen.contains f=true
   .rw [Xe r]at h⊢;exact ZGN n _ _ L h m (by omega)
   .rw [Xd r]at h⊢;exact ZGN n _ _ L h m (by omega)
theorem ZJB(h:ZE3 P n [f] []=some L)(q:n<=1+(P.funcs.toList.map λg=>(P.leadsTo g).length+1).sum):P.closure f=L:=by unfold Program.closure;exact ZGN n _ _ L h _ q
def ZXO(P:Program)(n:Nat)(f:FuncId)(L:List FuncId)(c:OpenClaim):Bool:=
 Nat.ble n (1+(P.funcs.toList.map λg=>(P.leadsTo g).length+1).sum)&&(ZE3 P n [f] []==some L)&&
 (L.all λg=>((P.funcs[g]?).elim [] P.leadsTo).all λh=>(ZE3 P n [h] []).isSome)&&
 (c.inPlace==L.filterMap λg=>(P.funcs[g]?).bind λfn=>if fn.ours||fn.body.isNone||fn.name == "runtime.NumGoroutine" then some fn.name else none)&&
 (c.unfollowed==L.any λg=>(P.funcs[g]?).any λfn=>match fn.body with|some c=>c.unfollowed|none=>entryCalls fn)&&
 (c.recurses==((L.any λg=>(P.funcs[g]?).any λfn=>match fn.body with|some c=>c.unfollowed|none=>entryCalls fn)||L.any λg=>((P.funcs[g]?).elim [] P.leadsTo).any λh=>((ZE3 P n [h] []).getD []).contains g))&&
 (c.named==(((L.flatMap λg=>((P.funcs[g]?).bind (·.body)).elim [] Code.globalsNamed).eraseDups).filterMap (λg=>(P.globals[g]?).map (·.name))++
   L.filterMap λg=>(P.funcs[g]?).bind λfn=>if fn.body.isNone then entryReads.lookup fn.name else none).eraseDups)
def ZKQ(ws:List (List Nat)):List (List Char):=behindMainWord (ws.map λw=>w.map Char.ofNat)
variable {cs:List Nat}
theorem ZUg(h:P.initOrder=String.ofList (cs.map Char.ofNat))(q:wordsSigns (cs.map Char.ofNat)=ws.map λw=>w.map Char.ofNat):behindMainWord (wordsSigns P.initOrder.toList)=ZKQ ws:=by rw[h,String.toList_ofList,q];rfl
def ZMK(P:Program)(W:List (List Char)):Bool:=
 match W with
 | c::rest=>
   ((c == "gc".toList||c == "spec".toList)&&(rest.isEmpty||rest.head?==some "stop".toList))||
   (c == "carried".toList&&rest.take 2==["gc".toList,"cut".toList]&&!P.laysLater&&!P.bearsReflect)||
   ((stripLifts liftWords (c::rest)).2.head?==some "cut".toList&&
     ((stripLifts liftWords (c::rest)).1.contains "finals" || !P.laysLater)&&((stripLifts liftWords (c::rest)).1.contains "reflectrows" || !P.bearsReflect)&&
     ((stripLifts liftWords (c::rest)).1.contains "reflectrows" || !(stripLifts liftWords (c::rest)).1.contains "leanrows")&&
     P.doorFits (stripLifts liftWords (c::rest)).1)
 | []=>false
def ZGM(W:List (List Char)):List String:=
 let r:=stripLifts liftWords W
 if r.2.head?==some "cut".toList then r.1 else []
def ZIb(W:List (List Char)):Bool:=
 (W.head?==some "carried".toList&&W.take 3 != ["carried".toList,"gc".toList,"cut".toList])||(ZGM W).contains "finals"
def ZZm(W:List (List Char)):Option Make:=
 match W with
 | c::rest=>if c == "gc".toList||c == "spec".toList then some .whole else if c == "cut".toList||(c == "finals".toList&&rest.head?==some "cut".toList) then some .cut else if c == "carried".toList then some .carried else if (ZGM W).isEmpty then none else some (.lifted (ZGM W))
 | []=>none
variable {W:List (List Char)}
theorem ZMb(h:behindMainWord (wordsSigns P.initOrder.toList)=W)(m:ZMK P W=true):P.mayEnter=true:=by unfold Program.mayEnter;rw[h];exact m
theorem ZJk(h:behindMainWord (wordsSigns P.initOrder.toList)=W):P.liftsFinal=ZIb W:=by unfold Program.liftsFinal Program.headLifts;rw[h];rfl
theorem ZXq(h:behindMainWord (wordsSigns P.initOrder.toList)=W):P.make=ZZm W:=by unfold Program.make Program.headLifts;rw[h];rfl
def ZRz(P:Program)(fn:Func)(s:ChangeSpec)(c:OpenClaim):Bool:=
 c.wf (OpenSpec.ofChange s)
def ZRF(P:Program)(fn:Func)(s:ChangeSpec)(c:OpenClaim):Bool:=
 laidOutB P
def ZUM(P:Program)(fn:Func)(s:ChangeSpec)(c:OpenClaim):Bool:=
 mapsRowed P
def ZSF(P:Program)(fn:Func)(s:ChangeSpec)(c:OpenClaim):Bool:=
 fn.params.all (P.readableRec ·)&&namedTie P c.named s.vars&&(c.stops==[])&&(P.stops==[])&&(c.knobs==[])&&(P.stopKnobs==[])
def ZTQ(P:Program)(fn:Func)(s:ChangeSpec)(c:OpenClaim):Bool:=
 (c.maps==(fn.params.toList++s.plain.varTypes P).any (P.mapsRec ·))&&(c.ifaces==(fn.params.toList++s.plain.varTypes P).any (P.ifacesRec ·))&&(c.mapsOut==P.mapsAmong fn.resultTypes.toList)
def ZT0(P:Program)(fn:Func)(s:ChangeSpec)(c:OpenClaim):Bool:=
 (c.loops==(fn.params.toList++s.plain.varTypes P).any (P.loopsFrom ·))
def ZS1(P:Program)(fn:Func)(s:ChangeSpec)(c:OpenClaim):Bool:=
 (c.wideKeys==(fn.params.toList++s.plain.varTypes P++fn.resultTypes.toList).any (P.wideKeysFrom ·))&&s.vars.all (P.varReadable ·)&&fn.resultTypes.all (λt=>P.readableRec t&&decide (t<P.types.size))&&(c.ifacesOut==fn.resultTypes.toList.any (P.ifacesRec ·))
def ZUR(P:Program)(fn:Func)(s:ChangeSpec)(c:OpenClaim):Bool:=
 (c.loopsOut==fn.resultTypes.toList.any (P.loopsFrom ·))
def ZRG(P:Program)(fn:Func)(s:ChangeSpec)(c:OpenClaim):Bool:=
 (c.plainKeys==P.plainKeys)
def ZOO(P:Program)(fn:Func)(s:ChangeSpec)(c:OpenClaim):Bool:=
 c.shortTexts.isNone&&P.stopsHeard
def ZU9(P:Program)(W:List (List Char)):Bool:=
 ZMK P W
def ZNv(c:OpenClaim)(W:List (List Char)):Bool:=
 (c.lifted==ZIb W)
def ZNz(fn:Func)(P:Program)(c:OpenClaim)(W:List (List Char)):Bool:=
 (ZZm W==some c.make)&&(c.kinds==(if c.domain.isEmpty then [] else fn.params.toList.map λt=>match P.underlying t with|some (.int k)=>some k|_=>none))&&(c.pinned==c.pinnedBy)
def ZOI(P:Program)(fn:Func)(s:ChangeSpec)(c:OpenClaim):Bool:=
 (c.veiled==(fn.params.toList++s.plain.varTypes P++fn.resultTypes.toList).any (P.veiledRec ·))
def ZOb(P:Program)(fn:Func)(s:ChangeSpec)(c:OpenClaim):Bool:=
 c.veiledFits P fn.params.toList (fn.params.toList++s.plain.varTypes P++fn.resultTypes.toList)
theorem ZaE{s:ChangeSpec}{c:OpenClaim}(n:Nat)(L:List FuncId)(hi:P.initOrder=String.ofList (cs.map Char.ofNat))(hw:wordsSigns (cs.map Char.ofNat)=ws.map λw=>w.map Char.ofNat)(h1:ZXO P n f L c=true)(o1:ZRz P fn s c=true)(o2:ZRF P fn s c=true)(o3:ZUM P fn s c=true)(o4:ZSF P fn s c=true)(o5:ZTQ P fn s c=true)(o6:ZT0 P fn s c=true)(o7:ZS1 P fn s c=true)(o8:ZUR P fn s c=true)(o9:ZRG P fn s c=true)(D:ZOO P fn s c=true)(o11:ZU9 P (ZKQ ws)=true)(E:ZNv c (ZKQ ws)=true)(q:ZNz fn P c (ZKQ ws)=true)(X:ZOI P fn s c=true)(Y:ZOb P fn s c=true):joinedFacts P f fn s c=true:=by
 unfold ZXO at h1;simp only[Xf]at h1;obtain⟨⟨⟨⟨⟨⟨a1,a2⟩,a3⟩,a4⟩,a5⟩,a6⟩,a7⟩:=h1;have hn:=Wi a1;have Z:P.closure f=L:=ZJB (by simpa using a2) hn;have hh:∀ g∈L,∀ h∈(P.funcs[g]?).elim [] P.leadsTo,P.closure h=(ZE3 P n [h] []).getD []:=by intro g r h hh;have:=Wn.1 (Wn.1 a3 g r) h hh;obtain⟨M,hM⟩:=Vg.1 this;rw[hM];exact ZJB hM hn
 have b4:(c.inPlace==P.inPlace f)=true:=by unfold Program.inPlace;rw[Z];exact a4
 have b5:(c.unfollowed==P.unfollowed f)=true:=by unfold Program.unfollowed;rw[Z];exact a5
 have b6:(c.recurses==P.recurses f)=true:=by
  unfold Program.recurses Program.unfollowed;rw[Z];have e:(L.any λg=>((P.funcs[g]?).elim [] P.leadsTo).any λh=>(P.closure h).contains g)=L.any λg=>((P.funcs[g]?).elim [] P.leadsTo).any λh=>((ZE3 P n [h] []).getD []).contains g:=by
   rw[XA,WC,WC];constructor
   .rintro ⟨g,r,h⟩;rw[WC]at h;obtain⟨x,G,y⟩:=h;exact⟨g,r,WC.2 ⟨x,G,by rw[<-hh g r x G];exact y⟩⟩
   .rintro ⟨g,r,h⟩;rw[WC]at h;obtain⟨x,G,y⟩:=h;exact⟨g,r,WC.2 ⟨x,G,by rw[hh g r x G];exact y⟩⟩
  rw[e];exact a6
 have b7:(c.named==P.varsNamed f)=true:=by unfold Program.varsNamed;rw[Z];exact a7
 unfold ZRz at o1;have k1:=o1;unfold ZRF at o2;have k2:=o2;unfold ZUM at o3;have k3:=o3;unfold ZSF at o4;simp only[Xf]at o4;obtain⟨⟨⟨⟨⟨k4,k5⟩,k6⟩,k7⟩,k8⟩,k9⟩:=o4;unfold ZTQ at o5;simp only[Xf]at o5;obtain⟨⟨k14,k15⟩,k16⟩:=o5;unfold ZT0 at o6;have k17:=o6;unfold ZS1 at o7;simp only[Xf]at o7;obtain⟨⟨⟨I,k18⟩,k19⟩,k20⟩:=o7;unfold ZUR at o8;have k21:=o8;unfold ZRG at o9;have k22:=o9;unfold ZOO at D;simp only[Xf]at D;obtain⟨k23,O⟩:=D;have hW:=ZUg hi hw;have k24:=ZMb hW o11;unfold ZNv at E;rw[<-ZJk hW]at E;have U:=E;unfold ZNz at q;rw[<-ZXq hW]at q;simp only[Xf]at q;obtain⟨⟨V,k25⟩,k26⟩:=q;unfold ZOI at X;have k27:=X;unfold ZOb at Y;have k28:=Y;unfold joinedFacts;simp only[Xf];exact⟨⟨⟨⟨⟨⟨⟨⟨⟨⟨⟨⟨⟨⟨⟨⟨⟨⟨⟨⟨⟨⟨⟨⟨⟨⟨⟨⟨⟨⟨⟨k1,k2⟩,k3⟩,k4⟩,k5⟩,k6⟩,k7⟩,k8⟩,k9⟩,b4⟩,b5⟩,b6⟩,b7⟩,k14⟩,k15⟩,k16⟩,k17⟩,I⟩,k18⟩,k19⟩,k20⟩,k21⟩,k22⟩,k23⟩,O⟩,k24⟩,U⟩,V⟩,k25⟩,k26⟩,k27⟩,k28⟩
end Go.Eng
