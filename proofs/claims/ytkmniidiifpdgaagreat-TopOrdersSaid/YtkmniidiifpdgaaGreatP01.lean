/- Made by program: of our texts what this law needs (Eng.P Eng.Q Eng.QD Eng.R Eng.S Eng.U Eng.V Eng.W Eng.X Eng.Y Eng.Z Eng.AA Eng.AB Eng.AC Eng.AD Eng.JF). -/
import Derived.Test.YtkmniidiifpdgaaGreatP00
import Derived.ChangeArms
import Derived.ChangeSlices
import Derived.WideShapes
import Derived.OpenShut
import Derived.SizedLaws
import Derived.Below
import Derived.Shelf.SlSortCmp.NoneTotal
import Derived.JoinedOf
set_option linter.unusedVariables false
namespace Go.Eng
abbrev JS:=List (Nat×Bool×Cdc)
def JT:JS->Type
 | []=>Unit
 | [x]=>x.2.2.T
 | x::y::l=>x.2.2.T×JT (y::l)
def Zab (c:Cdc) (cs:List Value):Option c.T:=
 match c.agg with
 | true=>c.dec (.agg cs.toArray)
 | false=>match cs with
   | [v]=>bif ZF7 v then c.dec v else none
   | _=>none
def ZYl (b:Bool) (c:Cdc):EV→Option c.T
 | .val v=>match b with
   | true=>none
   | false=>c.dec v
 | .box cs=>match b with
   | true=>Zab c cs
   | false=>none
 | _=>none
def ZW3:(js:JS)→Env→Option (JT js)
 | [],_=>some ()
 | [(s,b,c)],env=>ZYl b c (env s)
 | (s,b,c)::y::l,env=>match ZYl b c (env s) with
   | some x=>match ZW3 (y::l) env with
     | some r=>some (x,r)
     | none=>none
   | none=>none
def ev1 (b:Bool) (c:Cdc) (x:c.T):EV:=
 match b with
 | true=>.box (c.enc x).cells.toList
 | false=>.val (c.enc x)
def ZF4:(js:JS)->JT js->Nat->Option EV
 | [],_,_=>none
 | [(s,b,c)],x,k=>bif Nat.beq k s then some (ev1 b c x) else none
 | (s,b,c)::y::l,x,k=>bif Nat.beq k s then some (ev1 b c x.1) else ZF4 (y::l) x.2 k
def envJ (A:Ann) (js:JS) (m:Nat) (env:Env) (x:JT js):Env:=λs=>
 match ZF4 js x s with
 | some e=>e
 | none=>bif m.testBit s||(A.refOf s).isSome then .unk else env s
def ZY {T:Type} (J:T->Hp->Prop) (B:(T->Hp->Prop)->Prop):Prop:=B J
def Zj {T:Type} (x0:T) (h0:Hp) (B:(T->Hp->Prop)->T->Hp->Prop):Prop:=
 ∃ (I:T->Hp->Prop) (μ:T->Hp->Nat),I x0 h0/\∀ x h,I x h->B (λx' h'=>I x' h'/\μ x' h'<μ x h) x h
inductive An:Type 1 where
 | leaf
 | reg (seq:Seq)
 | regX
 | regT (t:RT)
 | seq (a b:An)
 | join (js:JS) (m:Nat) (a b:An)
 | cond (a b:An)
 | block (a:An)
 | blockJ (js:JS) (m:Nat) (a:An)
 | loop (js:JS) (m:Nat) (a:An)
structure Ct where
 n:Env->Hp->Prop
 x:Nat->Env->Hp->Prop
 r:Option Value->Env->Hp->Prop
def toJ (js:JS) (e:Env) (h:Hp) (J:JT js->Hp->Prop):Prop:=
 match ZW3 js e with
 | some x=>J x h
 | none=>False
def ZP4:Option Nat->Nat
 | some d=>2 ^ d
 | none=>0
def ZM6 (A:Ann):List Oper->Nat
 | []=>0
 | o::l=>ZP4 o.dst ||| (ZP4 (ZA3 A o) ||| ZM6 A l)
def ZGS (a b:Nat):Bool:=Nat.beq (a ||| b) b
def ZB8:JS->Nat
 | []=>0
 | x::l=>2 ^ x.1 ||| ZB8 l
def ZBc (A:Ann):Code->An->Nat
 | .region _ ops _,_=>ZM6 A ops.toList
 | .seq a b,.seq a' b'=>ZBc A a a' ||| ZBc A b b'
 | .seq _ b,.join _ m _ b'=>m ||| ZBc A b b'
 | .cond _ x y,.cond x' y'=>ZBc A x x' ||| ZBc A y y'
 | .block _ c,.block a=>ZBc A c a
 | .block _ _,.blockJ _ m _=>m
 | .loop _,.loop _ m _=>m
 | _,_=>0
def ZCc (n:Nat):Seq:=(List.range n).map λi=>(i,[])
def isX (A:Ann) (P:Program) (o:Oper):Bool:=
 match o.guard with
 | some _=>false
 | none=>match o.op with
   | .panic _=>true
   | .typeAssert _ _ _ true=>true
   | .binOp .neq _ _ (.const .nilIface) _=>true
   | .call c=>match c.callee,c.argTypes[1]? with
     | .value (.func g),_=>A.pan g
     | .builtin .cap,_=>true
     | .builtin .append,some u=>(match P.underlying u with|some (.int _)=>true|_=>false)
     | _,_=>false
   | _=>false
def ZYq (A:Ann) (P:Program) (o:Oper) (env:Env):Option Value:=
 match o.op with
 | .typeAssert x _ t true=>match look A env x,P.underlying t with
   | .v (.iface t' v),some (.struct _)=>bif Nat.beq t' t then some (.tuple #[v,.bool true]) else (match ZDM P t with
     | some z=>some (.tuple #[z,.bool false])
     | none=>none)
   | _,_=>none
 | .binOp .neq t x (.const .nilIface) _=>match look A env x,P.underlying t with
   | .v (.iface _ _),some (.interface _)=>some (.bool true)
   | .v .nilIface,some (.interface _)=>some (.bool false)
   | _,_=>none
 | .call c=>match c.callee,c.argTypes[0]?,ZH6 (look A env) c.args.toList with
   | .builtin .cap,some t,some [.slice _ _ n]=>(match P.underlying t with
     | some (.slice _)=>some (.int .i64 (n:Int))
     | _=>none)
   | _,_,_=>none
 | _=>none
def ZW5 (A:Ann) (P:Program) (N:Nat) (o:Oper) (env:Env) (h:Hp) (K:Env→Hp→Prop) (S:Value→Env→Hp→Prop):Prop:=
 match ZYq A P o env with
 | some v=>bif ZFs N o then K (put A env o.dst (.val v)) h else False
 | none=>match o.op with
   | .panic x=>match look A env x with
     | .v (.iface t v)=>S (.iface t v) env h
     | _=>False
   | .call c=>bif ZFs N o then (match c.callee with
     | .value (.func g)=>match ZH6 (look A env) c.args.toList,A.res g,P.funcs[g]? with
       | some l,some r,some fn=>match fn.body with
         | some _=>ZEu P g l r h (λy h'=>K (put A env o.dst (.val (r.enc y))) h') (λv h'=>S v env h')
         | none=>False
       | _,_,_=>False
     | .builtin .append=>match c.argTypes[0]?,c.argTypes[1]?,ZH6 (look A env) c.args.toList with
       | some t,some u,some [.slice a len cap,.int _ n]=>match P.underlying t,P.underlying u with
         | some (.slice e),some (.int _)=>match A.cdc e,ZDM P e with
           | some cd,some zv=>bif ZAt P cd e&&(Nat.ble 1 (ZA2 P e)&&Nat.ble (ZA2 P e) 1048576) then
               (match cd.dec zv with
               | some z=>ZHp cd z e (ZA2 P e) a len cap n h λa' l' c' h'=>K (put A env o.dst (.val (.slice a' l' c'))) h'
               | none=>False)
             else False
           | _,_=>False
         | _,_=>False
       | _,_,_=>False
     | _=>False) else False
   | _=>False
def ZLg (A:Ann) (P:Program) (N:Nat) (ops:Array Oper) (o:Oper) (env:Env) (h:Hp) (K:Env->Hp->Prop) (S:Value->Env->Hp->Prop):Prop:=
 bif isX A P o then ZW5 A P N o env h K S else ZAV A P N ops o env h K
def ZP7 (A:Ann) (P:Program) (N:Nat) (ops:Array Oper):List Nat→Env→Hp→(Env→Hp→Prop)→(Value→Env→Hp→Prop)→Prop
 | [],env,h,K,_=>K env h
 | i::l,env,h,K,S=>match ops[i]? with
   | some o=>ZLg A P N ops o env h (λe h=>ZP7 A P N ops l e h K S) S
   | none=>False
def ZAF (A:Ann) (P:Program) (N:Nat):Code→An→Env→Hp→Ct→Prop
 | .skip,_,env,h,C=>C.n env h
 | .label _,_,env,h,C=>C.n env h
 | .region _ ops draw,.reg seq,env,h,C=>match draw with
   | true=>bif ZG8 A P ops seq then ZHf A P N ops seq env h C.n else False
   | false=>ZHf A P N ops (ZCc ops.size) env h C.n
 | .region _ ops draw,.regT t,env,h,C=>match draw with
   | true=>bif ZGd A P ops [] t then ZVt A P N ops t env h C.n else False
   | false=>False
 | .region _ ops draw,.regX,env,h,C=>match draw with
   | true=>False
   | false=>ZP7 A P N ops (List.range ops.size) env h C.n λv=>C.r (some v)
 | .seq a b,.seq a' b',env,h,C=>ZAF A P N a a' env h {C with n:=λe h=>ZAF A P N b b' e h C}
 | .seq a b,.join js m a' b',env,h,C=>bif ZGS (ZBc A a a') m&&ZGS (ZB8 js) m then
    ZY (λx h=>ZAF A P N b b' (envJ A js m env x) h C) λJ=>ZAF A P N a a' env h {C with n:=λe h=>toJ js e h J}
   else False
 | .cond c x y,.cond x' y',env,h,C=>match look A env c with
   | .v (.bool b)=>ZB b (ZAF A P N x x' env h C) (ZAF A P N y y' env h C)
   | _=>False
 | .block id c,.block a,env,h,C=>ZAF A P N c a env h {C with x:=λk=>bif Nat.beq k id then C.n else C.x k}
 | .block id c,.blockJ js m a,env,h,C=>bif ZGS (ZBc A c a) m&&ZGS (ZB8 js) m then
    ZY (λx h=>C.n (envJ A js m env x) h) λJ=>ZAF A P N c a env h {n:=λe h=>toJ js e h J,x:=λk=>bif Nat.beq k id then (λe h=>toJ js e h J) else C.x k,r:=C.r}
   else False
 | .loop c,.loop js m a,env,h,C=>bif ZGS (ZBc A c a) m&&ZGS (ZB8 js) m then
    (match ZW3 js env with
    | some x0=>Zj x0 h λagain x h=>ZAF A P N c a (envJ A js m env x) h {C with n:=λe h=>toJ js e h again}
    | none=>False)
   else False
 | .exit id,_,env,h,C=>C.x id env h
 | .ret,_,env,h,C=>C.r none env h
 | _,_,_,_,_=>False
def Ct.le (C C':Ct):Prop:=(∀ e h,C.n e h->C'.n e h)/\(∀ k e h,C.x k e h->C'.x k e h)/\∀ o e h,C.r o e h->C'.r o e h
section
variable {A:Ann} {P:Program} {N:Nat}
theorem ZEc {js:JS} {e:Env} {h:Hp} {J J':JT js->Hp->Prop} (hJ:∀ x h,J x h->J' x h) (hk:toJ js e h J):toJ js e h J':=by
 unfold toJ at hk ⊢;split at hk
 .exact hJ _ _ hk
 .exact hk.elim
theorem ZSc.mono {f:FuncId} {args:Array Value} {h:Hp} {R R' S S':Value->Hp->Prop} (s:ZSc P f args h R S) (hr:∀ v h',R v h'->R' v h') (hs:∀ v h',S v h'->S' v h'):ZSc P f args h R' S':=
 λw fr a b c=>(s w fr a b c).mono λ_ _ ⟨v,h',he,rest⟩=>⟨v,h',he.imp (λ⟨e,k⟩=>⟨e,hr _ _ k⟩) (λ⟨e,k⟩=>⟨e,hs _ _ k⟩),rest⟩
theorem ZSE {o:Oper} (h:isX A P o=true):o.guard=none:=by
 unfold isX at h;split at h
 .cases h
 .assumption
def Zaa (A:Ann) (P:Program) (N:Nat) (o:Oper) (env:Env) (h:Hp) (K:Env→Hp→Prop) (S:Value→Env→Hp→Prop):Prop:=
 (ZFs N o=true/\∃ v,ZYq A P o env=some v/\K (put A env o.dst (.val v)) h)\/
 (ZYq A P o env=none∧((∃ x t v,o.op=.panic x∧look A env x=.v (.iface t v)∧S (.iface t v) env h)∨
   (∃ c,o.op=.call c∧ZFs N o=true∧
     ((∃ g l r fn b,c.callee=.value (.func g)/\ZH6 (look A env) c.args.toList=some l/\A.res g=some r/\P.funcs[g]?=some fn/\fn.body=some b/\
       ZEu P g l r h (λy h'=>K (put A env o.dst (.val (r.enc y))) h') (λv h'=>S v env h'))\/
     (∃ t u a len cap k n e k' cd zv z,c.callee=.builtin .append/\c.argTypes[0]?=some t/\c.argTypes[1]?=some u/\ZH6 (look A env) c.args.toList=some [.slice a len cap,.int k n]/\P.underlying t=some (.slice e)/\P.underlying u=some (.int k')/\
       A.cdc e=some cd/\ZDM P e=some zv/\ZAt P cd e=true/\(1<=ZA2 P e/\ZA2 P e<=1048576)/\cd.dec zv=some z/\
       ZHp cd z e (ZA2 P e) a len cap n h λa' l' c' h'=>K (put A env o.dst (.val (.slice a' l' c'))) h')))))
theorem ZI3 {o:Oper} {env:Env} {h:Hp} {K:Env→Hp→Prop} {S:Value→Env→Hp→Prop} (hk:ZW5 A P N o env h K S):Zaa A P N o env h K S:=by
 unfold ZW5 at hk;split at hk
 .rename_i v hv;cases hd:ZFs N o with
  | false=>rw [hd] at hk; exact hk.elim
  | true=>rw [hd] at hk; exact .inl ⟨hd,v,hv,hk⟩
 ·rename_i hv;refine .inr ⟨hv,?_⟩;split at hk
  .rename_i x hop;split at hk
   .rename_i t v hl; exact .inl ⟨x,t,v,hop,hl,hk⟩
   .exact hk.elim
  ·rename_i c hop;cases hd:ZFs N o with
   | false=>rw [hd] at hk; exact hk.elim
   | true=>
     rw [hd] at hk;simp only [cond_true] at hk;refine .inr ⟨c,hop,rfl,?_⟩;split at hk
     .rename_i g hcal;split at hk
      .rename_i l r fn hl hr hfn;split at hk
       .rename_i b hb; exact .inl ⟨g,l,r,fn,b,hcal,hl,hr,hfn,hb,hk⟩
       .exact hk.elim
      .exact hk.elim
     ·rename_i hcal;split at hk
      ·rename_i t u a len cap k n ht hu hl;split at hk
       ·rename_i e k' ht' hu';split at hk
        ·rename_i cd zv hcd hzv;cases hb:(ZAt P cd e&&(Nat.ble 1 (ZA2 P e)&&Nat.ble (ZA2 P e) 1048576)) with
         | false=>rw [hb] at hk; exact hk.elim
         | true=>
           rw [hb] at hk;simp only [cond_true] at hk;simp only [Bool.and_eq_true] at hb;split at hk
           .rename_i z hz;exact .inr ⟨t,u,a,len,cap,k,n,e,k',cd,zv,z,hcal,ht,hu,hl,ht',hu',hcd,hzv,hb.1,⟨Nat.le_of_ble_eq_true hb.2.1,Nat.le_of_ble_eq_true hb.2.2⟩,hz,hk⟩
           .exact hk.elim
        .exact hk.elim
       .exact hk.elim
      .exact hk.elim
     .exact hk.elim
  .exact hk.elim
theorem ZJn {o:Oper} {env:Env} {h:Hp} {K:Env->Hp->Prop} {S:Value->Env->Hp->Prop} (hk:Zaa A P N o env h K S):ZW5 A P N o env h K S:=by
 unfold ZW5;rcases hk with ⟨hd,v,hv,hk⟩|⟨hv,⟨x,t,v,hop,hl,hk⟩|⟨c,hop,hd,⟨g,l,r,fn,b,hcal,hl,hr,hfn,hb,hk⟩|⟨t,u,a,len,cap,k,n,e,k',cd,zv,z,hcal,ht,hu,hl,ht',hu',hcd,hzv,hf,hb,hz,hk⟩⟩⟩
 .rw [hv]; dsimp only; rw [hd]; exact hk
 .rw [hv]; dsimp only; rw [hop]; dsimp only; rw [hl]; exact hk
 .rw [hv]; dsimp only; rw [hop]; dsimp only; rw [hd]; simp only [cond_true]; rw [hcal]; dsimp only; rw [hl,hr,hfn]; dsimp only; rw [hb]; exact hk
 .rw [hv]; dsimp only; rw [hop]; dsimp only; rw [hd]; simp only [cond_true]; rw [hcal]; dsimp only; rw [hl,ht,hu]; dsimp only; rw [ht',hu']; dsimp only; rw [hcd,hzv]; dsimp only;rw [hf,Nat.ble_eq_true_of_le hb.1,Nat.ble_eq_true_of_le hb.2];simp only [Bool.and_self,cond_true];rw [hz]; exact hk
theorem ZO0 {c:Cdc} {z:c.T} {e:TypeId} {bytes:Nat} {a:Option Addr} {len cap:Nat} {n:Int} {h:Hp} {K K':Option Addr→Nat→Nat→Hp→Prop} (hK:∀ a l c h,K a l c h→K' a l c h) (hk:ZHp c z e bytes a len cap n h K):ZHp c z e bytes a len cap n h K':=by
 obtain ⟨h0,h1,h2,h3⟩:=hk;refine ⟨h0,h1,λhc=>?_,λhc=>?_⟩
 .have:=h2 hc;cases a with
  | none=>exact hK _ _ _ _ this
  | some ad=>exact ⟨this.1,hK _ _ _ _ this.2⟩
 .obtain ⟨hr,he⟩:=h3 hc;refine ⟨hr,?_⟩;have mono:∀ {R R':List c.T->Prop},(∀ xs,R xs->R' xs)->ZCM c a len h R->ZCM c a len h R':=by
   intro R R' hRR he;unfold ZCM at he ⊢;cases a with
   | none=>exact ⟨he.1,hRR _ he.2⟩
   | some ad=>obtain ⟨xs,e1,e2,e3⟩:=he; exact ⟨xs,e1,e2,hRR _ e3⟩
  exact mono (λxs hx nc pad e1 e2 b hb=>hK _ _ _ _ (hx nc pad e1 e2 b hb)) he
theorem ZK5 {o:Oper} {env:Env} {h:Hp} {K K':Env->Hp->Prop} {S S':Value->Env->Hp->Prop} (hK:∀ e h,K (put A env o.dst e) h->K' (put A env o.dst e) h) (hS:∀ v e h,S v e h->S' v e h) (hk:ZW5 A P N o env h K S):
 ZW5 A P N o env h K' S':=by
 rcases ZI3 hk with ⟨hd,v,hv,hk⟩|⟨hv,⟨x,t,v,hop,hl,hk⟩|⟨c,hop,hd,⟨g,l,r,fn,b,hcal,hl,hr,hfn,hb,hk⟩|⟨t,u,a,len,cap,k,n,e,k',cd,zv,z,hcal,ht,hu,hl,ht',hu',hcd,hzv,hf,hb,hz,hk⟩⟩⟩
 .exact ZJn (.inl ⟨hd,v,hv,hK _ _ hk⟩)
 .exact ZJn (.inr ⟨hv,.inl ⟨x,t,v,hop,hl,hS _ _ _ hk⟩⟩)
 .exact ZJn (.inr ⟨hv,.inr ⟨c,hop,hd,.inl ⟨g,l,r,fn,b,hcal,hl,hr,hfn,hb,ZSc.mono hk (λv h' ⟨x,e,k⟩=>⟨x,e,hK _ _ k⟩) (λv h' k=>hS _ _ _ k)⟩⟩⟩)
 .exact ZJn (.inr ⟨hv,.inr ⟨c,hop,hd,.inr ⟨t,u,a,len,cap,k,n,e,k',cd,zv,z,hcal,ht,hu,hl,ht',hu',hcd,hzv,hf,hb,hz,ZO0 (λa l c h k=>hK _ _ k) hk⟩⟩⟩)
theorem ZIL {ops:Array Oper} {o:Oper} {env:Env} {h:Hp} {K K':Env->Hp->Prop} {S S':Value->Env->Hp->Prop} (hK:∀ e h,K e h->K' e h) (hS:∀ v e h,S v e h->S' v e h) (hk:ZLg A P N ops o env h K S):
 ZLg A P N ops o env h K' S':=by
 unfold ZLg at hk ⊢;cases hx:isX A P o with
 | true=>rw [hx] at hk; exact ZK5 (λe h=>hK _ h) hS hk
 | false=>rw [hx] at hk; exact Z6 hk hK
theorem ZLe {ops:Array Oper}:∀ {l:List Nat} {env:Env} {h:Hp} {K K':Env→Hp→Prop} {S S':Value→Env→Hp→Prop},(∀ e h,K e h→K' e h)→(∀ v e h,S v e h→S' v e h)→ZP7 A P N ops l env h K S→ZP7 A P N ops l env h K' S':=by
 intro l;induction l with
 | nil=>intro env h K K' S S' hK _ hk; exact hK _ _ hk
 | cons i l ih=>
   intro env h K K' S S' hK hS hk;unfold ZP7 at hk ⊢;split at hk
   .rename_i o ho;exact ZIL (λe h hk=>ih hK hS hk) hS hk
   .exact hk.elim
theorem ZOe:∀ (c:Code) (a:An) (env:Env) (h:Hp) (C C':Ct),C.le C'→ZAF A P N c a env h C→ZAF A P N c a env h C':=by
 intro c;induction c with
 | skip=>intro a env h C C' hC hk; exact hC.1 _ _ hk
 | label l=>intro a env h C C' hC hk; exact hC.1 _ _ hk
 | region id ops draw=>
   intro a env h C C' hC hk;cases a<;>try exact hk.elim
   ·rename_i seq;cases draw with
    | true=>
      simp only [ZAF] at hk ⊢;cases hc:ZG8 A P ops seq with
      | false=>rw [hc] at hk; exact hk.elim
      | true=>rw [hc] at hk; exact ZFZ hC.1 hk
    | false=>exact ZFZ hC.1 hk
   .cases draw with
    | true=>exact hk.elim
    | false=>exact ZLe hC.1 (λv=>hC.2.2 (some v)) hk
   ·rename_i t;cases draw with
    | true=>
      simp only [ZAF] at hk ⊢;cases hc:ZGd A P ops [] t with
      | false=>rw [hc] at hk; exact hk.elim
      | true=>rw [hc] at hk; exact ZHM hC.1 hk
    | false=>exact hk.elim
 | seq x y ihx ihy=>
   intro a env h C C' hC hk;cases a<;>try exact hk.elim
   .rename_i a b;exact ihx a env h {C with n:=λe h=>ZAF A P N y b e h C} {C' with n:=λe h=>ZAF A P N y b e h C'} ⟨λe h hk=>ihy b e h C C' hC hk,hC.2⟩ hk
   ·rename_i js m a b;simp only [ZAF] at hk ⊢;cases hc:(ZGS (ZBc A x a) m&&ZGS (ZB8 js) m) with
    | false=>rw [hc] at hk; exact hk.elim
    | true=>
      rw [hc] at hk;exact ihx a env h {C with n:=λe h=>toJ js e h λx h=>ZAF A P N y b (envJ A js m env x) h C} {C' with n:=λe h=>toJ js e h λx h=>ZAF A P N y b (envJ A js m env x) h C'} ⟨λe h hk=>ZEc (λz h hk=>ihy b _ h C C' hC hk) hk,hC.2⟩ hk
 | cond o x y ihx ihy=>
   intro a env h C C' hC hk;cases a<;>try exact hk.elim
   rename_i a b;simp only [ZAF] at hk ⊢;split at hk
   .rename_i t ht;cases t
    .exact ihy b env h C C' hC hk
    .exact ihx a env h C C' hC hk
   .exact hk.elim
 | block id c ih=>
   intro a env h C C' hC hk;cases a<;>try exact hk.elim
   .rename_i a;refine ih a env h {C with x:=λk=>bif Nat.beq k id then C.n else C.x k} {C' with x:=λk=>bif Nat.beq k id then C'.n else C'.x k} ⟨hC.1,?_,hC.2.2⟩ hk;intro k e h hk;dsimp only at hk ⊢;cases hb:Nat.beq k id with
    | true=>rw [hb] at hk; exact hC.1 _ _ hk
    | false=>rw [hb] at hk; exact hC.2.1 _ _ _ hk
   ·rename_i js m a;simp only [ZAF] at hk ⊢;cases hc:(ZGS (ZBc A c a) m&&ZGS (ZB8 js) m) with
    | false=>rw [hc] at hk; exact hk.elim
    | true=>
      rw [hc] at hk;refine ih a env h {n:=λe h=>toJ js e h λx h=>C.n (envJ A js m env x) h,x:=λk=>bif Nat.beq k id then (λe h=>toJ js e h λx h=>C.n (envJ A js m env x) h) else C.x k,r:=C.r}
       {n:=λe h=>toJ js e h λx h=>C'.n (envJ A js m env x) h,x:=λk=>bif Nat.beq k id then (λe h=>toJ js e h λx h=>C'.n (envJ A js m env x) h) else C'.x k,r:=C'.r} ⟨λe h hk=>ZEc (λz h hk=>hC.1 _ _ hk) hk,?_,hC.2.2⟩ hk
      intro k e h hk;dsimp only at hk ⊢;cases hb:Nat.beq k id with
      | true=>rw [hb] at hk; exact ZEc (λz h hk=>hC.1 _ _ hk) hk
      | false=>rw [hb] at hk; exact hC.2.1 _ _ _ hk
 | loop c ih=>
   intro a env h C C' hC hk;cases a<;>try exact hk.elim
   rename_i js m a;simp only [ZAF] at hk ⊢;cases hc:(ZGS (ZBc A c a) m&&ZGS (ZB8 js) m) with
   | false=>rw [hc] at hk; exact hk.elim
   | true=>
     rw [hc] at hk;simp only [cond_true] at hk ⊢;split at hk
     .obtain ⟨I,μ,h0,hr⟩:=hk;exact ⟨I,μ,h0,λx h hI=>ih a _ h {C with n:=λe h'=>toJ js e h' λx' h'=>I x' h'/\μ x' h'<μ x h} {C' with n:=λe h'=>toJ js e h' λx' h'=>I x' h'/\μ x' h'<μ x h} ⟨λe h hk=>hk,hC.2⟩ (hr x h hI)⟩
     .exact hk.elim
 | exit id=>intro a env h C C' hC hk; exact hC.2.1 _ _ _ hk
 | ret=>intro a env h C C' hC hk; exact hC.2.2 _ _ _ hk
 | scope c ih=>intro a env h C C' hC hk; exact hk.elim
 | goto l=>intro a env h C C' hC hk; exact hk.elim
 | refuse s=>intro a env h C C' hC hk; exact hk.elim
 | rangeFunc f p x y=>intro a env h C C' hC hk; exact hk.elim
def Agr (A:Ann) (m:Nat) (env env':Env):Prop:=∀ s,m.testBit s=false->A.refOf s=none->env' s=env s
theorem Agr.refl (m:Nat) (env:Env):Agr A m env env:=λ_ _ _=>rfl
theorem Agr.trans {m m':Nat} {a b c:Env} (h:Agr A m a b) (k:Agr A m' b c):Agr A (m ||| m') a c:=by intro s hs hr;simp only [Nat.testBit_or,Bool.or_eq_false_iff] at hs;exact (k s hs.2 hr).trans (h s hs.1 hr)
theorem Agr.mono {m m':Nat} {a b:Env} (h:Agr A m a b) (hm:∀ s,m.testBit s=true->m'.testBit s=true):Agr A m' a b:=by
 intro s hs hr;refine h s ?_ hr;cases hb:m.testBit s with
 | false=>rfl
 | true=>rw [hm s hb] at hs; cases hs
theorem ZCr {a b:Nat} (h:ZGS a b=true):∀ s,a.testBit s=true->b.testBit s=true:=by intro s hs;have:=ZFb.1 h;rw [<-this,Nat.testBit_or,hs,Bool.true_or]
theorem ZMp {env:Env} {d:Option Tmp} {e:EV}:Agr A (ZP4 d) env (put A env d e):=by
 intro s hs hr;cases d with
 | none=>rfl
 | some d=>
   have hne:s≠d:=by rintro rfl;simp [ZP4] at hs
   rcases ZBl (A:=A) (env:=env) e hne with h|⟨_,_,h3⟩
   .exact h
   .rw [hr] at h3; cases h3
theorem ZJ3 {ops:Array Oper} {o:Oper} {env:Env} {h:Hp} {K:Env->Hp->Prop} (hk:ZAV A P N ops o env h K):
 ZAV A P N ops o env h λe h=>Agr A (ZP4 o.dst ||| ZP4 (ZA3 A o)) env e/\K e h:=by
 refine ZCp hk (ZAy.refl o env) λd hd e h' _ hk=>⟨?_,hk⟩
 rcases hd with rfl|rfl
 .exact ZMp.mono λs hs=>by rw [Nat.testBit_or,hs,Bool.true_or]
 .exact ZMp.mono λs hs=>by rw [Nat.testBit_or,hs,Bool.or_true]
theorem ZOY {A:Ann} {o:Oper}:∀ {l:List Oper},o∈l→∀ s,(ZP4 o.dst ||| ZP4 (ZA3 A o)).testBit s=true→(ZM6 A l).testBit s=true:=by
 intro l;induction l with
 | nil=>intro h; cases h
 | cons x l ih=>
   intro h s hs;simp only [ZM6,Nat.testBit_or,Bool.or_eq_true] at hs ⊢;rcases List.mem_cons.1 h with rfl|h
   .rcases hs with hs|hs
    .exact .inl hs
    .exact .inr (.inl hs)
   .exact .inr (.inr (ih h s (by simpa [Nat.testBit_or] using hs)))
theorem ZJU {ops:Array Oper}:∀ {l:Seq} {env:Env} {h:Hp} {K:Env→Hp→Prop},ZHf A P N ops l env h K→ZHf A P N ops l env h fun e h=>Agr A (ZM6 A ops.toList) env e∧K e h:=by
 intro l;induction l with
 | nil=>intro env h K hk; exact ⟨Agr.refl _ _,hk⟩
 | cons y l ih=>
   intro env h K hk;obtain ⟨i,ks⟩:=y;rw [ZCv] at hk ⊢;obtain ⟨o,ho,hk⟩:=hk;refine ⟨o,ho,Z6 (ZJ3 hk) λe h ⟨hag,hkk,hk⟩=>⟨hkk,ZFZ ?_ (ih hk)⟩⟩;rintro e' h' ⟨hag',hk'⟩;refine ⟨(hag.trans hag').mono λs hs=>?_,hk'⟩;rw [Nat.testBit_or,Bool.or_eq_true] at hs;rcases hs with hs|hs
   .exact ZOY (by simpa using List.mem_of_getElem? (by simpa using ho:ops.toList[i]?=some o)) s hs
   .exact hs
theorem ZJJ {ops:Array Oper}:∀ {t:RT} {env:Env} {h:Hp} {K:Env->Hp->Prop},ZVt A P N ops t env h K->ZVt A P N ops t env h λe h=>Agr A (ZM6 A ops.toList) env e/\K e h
 | .leaf _,_,_,_,hk=>ZJU hk
 | .node _ _ _ _,_,_,_,hk=>⟨ZJJ hk.1,ZJJ hk.2⟩
theorem ZQr {ops:Array Oper} {o:Oper} {env:Env} {h:Hp} {K:Env->Hp->Prop} {S:Value->Env->Hp->Prop} (hk:ZLg A P N ops o env h K S):
 ZLg A P N ops o env h (λe h=>Agr A (ZP4 o.dst ||| ZP4 (ZA3 A o)) env e/\K e h) S:=by
 unfold ZLg at hk ⊢;cases hx:isX A P o with
 | true=>rw [hx] at hk; exact ZK5 (K':=λe h=>Agr A (ZP4 o.dst ||| ZP4 (ZA3 A o)) env e/\K e h) (λe h hk=>⟨ZMp.mono λs hs=>by rw [Nat.testBit_or,hs,Bool.true_or],hk⟩) (λ_ _ _ h=>h) hk
 | false=>rw [hx] at hk; exact ZJ3 hk
theorem ZTv {ops:Array Oper}:∀ {l:List Nat} {env:Env} {h:Hp} {K:Env→Hp→Prop} {S:Value→Env→Hp→Prop},ZP7 A P N ops l env h K S→ZP7 A P N ops l env h (fun e h=>Agr A (ZM6 A ops.toList) env e∧K e h) S:=by
 intro l;induction l with
 | nil=>intro env h K S hk; exact ⟨Agr.refl _ _,hk⟩
 | cons i l ih=>
   intro env h K S hk;unfold ZP7 at hk ⊢;split at hk
   .rename_i o ho;refine ZIL ?_ (λ_ _ _ h=>h) (ZQr hk);rintro e h ⟨hag,hk⟩;refine ZLe ?_ (λ_ _ _ h=>h) (ih hk);rintro e' h' ⟨hag',hk'⟩;refine ⟨(hag.trans hag').mono λs hs=>?_,hk'⟩;rw [Nat.testBit_or,Bool.or_eq_true] at hs;rcases hs with hs|hs
    .exact ZOY (by simpa using List.mem_of_getElem? (by simpa using ho:ops.toList[i]?=some o)) s hs
    .exact hs
   .exact hk.elim
def Ct.agr (C:Ct) (A:Ann) (m:Nat) (env:Env):Ct:=
 {n:=λe h=>Agr A m env e/\C.n e h,x:=λk e h=>Agr A m env e/\C.x k e h,r:=C.r}
theorem ZI2:∀ {js:JS} {x:JT js} {s:Nat} {e:EV},ZF4 js x s=some e→(ZB8 js).testBit s=true:=by
 intro js;match js with
 | []=>intro x s e h; cases h
 | [(t,b,c)]=>
   intro x s e h;simp only [ZF4] at h;cases hb:Nat.beq s t with
   | false=>rw [hb] at h; cases h
   | true=>rw [ZFb.1 hb]; simp [ZB8]
 | (t,b,c)::y::l=>
   intro x s e h;simp only [ZF4] at h;cases hb:Nat.beq s t with
   | true=>rw [ZFb.1 hb]; simp [ZB8,Nat.testBit_or,Nat.testBit_two_pow]
   | false=>
     rw [hb] at h;have:=ZI2 (js:=y::l) h;unfold ZB8;rw [Nat.testBit_or,this,Bool.or_true]
theorem ZEU {js:JS} {m:Nat} {env:Env} {x:JT js} (hj:ZGS (ZB8 js) m=true):Agr A m env (envJ A js m env x):=by
 intro s hs hr;unfold envJ;cases hl:ZF4 js x s with
 | some e=>
   have:=ZCr hj s (ZI2 hl);rw [hs] at this; cases this
 | none=>simp [hs,hr]
theorem ZCa {c:Code} {a:An} {env:Env} {h:Hp} {C C':Ct} (hk:ZAF A P N c a env h C) (hC:C.le C'):ZAF A P N c a env h C':=
 ZOe c a env h C C' hC hk
theorem ZHx:∀ (c:Code) (a:An) (env:Env) (h:Hp) (C:Ct),ZAF A P N c a env h C→ZAF A P N c a env h (C.agr A (ZBc A c a) env):=by
 intro c;induction c with
 | skip=>intro a env h C hk; exact ⟨Agr.refl _ _,hk⟩
 | label l=>intro a env h C hk; exact ⟨Agr.refl _ _,hk⟩
 | region id ops draw=>
   intro a env h C hk;cases a<;>try exact hk.elim
   ·rename_i seq;cases draw with
    | true=>
      simp only [ZAF] at hk ⊢;cases hc:ZG8 A P ops seq with
      | false=>rw [hc] at hk; exact hk.elim
      | true=>rw [hc] at hk; exact ZJU hk
    | false=>exact ZJU hk
   .cases draw with
    | true=>exact hk.elim
    | false=>exact ZTv hk
   ·rename_i t;cases draw with
    | true=>
      simp only [ZAF] at hk ⊢;cases hc:ZGd A P ops [] t with
      | false=>rw [hc] at hk; exact hk.elim
      | true=>rw [hc] at hk; exact ZJJ hk
    | false=>exact hk.elim
 | seq x y ihx ihy=>
   intro a env h C hk;cases a<;>try exact hk.elim
   .rename_i a b;simp only [ZAF] at hk ⊢;refine ZCa (ihx a env h {C with n:=λe h=>ZAF A P N y b e h C} hk) ⟨?_,?_,λ_ e h hk=>hk⟩
    .rintro e h ⟨hag,hk⟩;refine ZCa (ihy b e h C hk) ⟨?_,?_,λ_ e h hk=>hk⟩
     .rintro e' h' ⟨hag',hk'⟩; exact ⟨hag.trans hag',hk'⟩
     .rintro k e' h' ⟨hag',hk'⟩; exact ⟨hag.trans hag',hk'⟩
    .rintro k e h ⟨hag,hk⟩;exact ⟨hag.mono λs hs=>by show (ZBc A x a ||| ZBc A y b).testBit s=true; rw [Nat.testBit_or,hs,Bool.true_or],hk⟩
   ·rename_i js m a b;simp only [ZAF] at hk ⊢;cases hc:(ZGS (ZBc A x a) m&&ZGS (ZB8 js) m) with
    | false=>rw [hc] at hk; exact hk.elim
    | true=>
      rw [hc] at hk;simp only [cond_true] at hk ⊢;simp only [Bool.and_eq_true] at hc;refine ZCa (ihx a env h {C with n:=λe h=>toJ js e h λx h=>ZAF A P N y b (envJ A js m env x) h C} hk) ⟨?_,?_,λ_ e h hk=>hk⟩
      .rintro e h ⟨hag,hk⟩;dsimp only at hk ⊢;refine ZEc (λz h hk=>?_) hk;refine ZCa (ihy b _ h C hk) ⟨?_,?_,λ_ e h hk=>hk⟩
       .rintro e' h' ⟨hag',hk'⟩; exact ⟨(ZEU hc.2).trans hag',hk'⟩
       .rintro k e' h' ⟨hag',hk'⟩; exact ⟨(ZEU hc.2).trans hag',hk'⟩
      .rintro k e h ⟨hag,hk⟩;exact ⟨hag.mono λs hs=>by show (m ||| ZBc A y b).testBit s=true; rw [Nat.testBit_or,ZCr hc.1 s hs,Bool.true_or],hk⟩
 | cond o x y ihx ihy=>
   intro a env h C hk;cases a<;>try exact hk.elim
   rename_i a b;simp only [ZAF] at hk ⊢;split at hk
   .rename_i t ht;cases t
    .refine ZCa (ihy b env h C hk) ⟨?_,?_,λ_ e h hk=>hk⟩
     .rintro e h ⟨hag,hk⟩; exact ⟨hag.mono λs hs=>by show (ZBc A x a ||| ZBc A y b).testBit s=true; rw [Nat.testBit_or,hs,Bool.or_true],hk⟩
     .rintro k e h ⟨hag,hk⟩; exact ⟨hag.mono λs hs=>by show (ZBc A x a ||| ZBc A y b).testBit s=true; rw [Nat.testBit_or,hs,Bool.or_true],hk⟩
    .refine ZCa (ihx a env h C hk) ⟨?_,?_,λ_ e h hk=>hk⟩
     .rintro e h ⟨hag,hk⟩; exact ⟨hag.mono λs hs=>by show (ZBc A x a ||| ZBc A y b).testBit s=true; rw [Nat.testBit_or,hs,Bool.true_or],hk⟩
     .rintro k e h ⟨hag,hk⟩; exact ⟨hag.mono λs hs=>by show (ZBc A x a ||| ZBc A y b).testBit s=true; rw [Nat.testBit_or,hs,Bool.true_or],hk⟩
   .exact hk.elim
 | block id c ih=>
   intro a env h C hk;cases a<;>try exact hk.elim
   .rename_i a;simp only [ZAF] at hk ⊢;refine ZCa (ih a env h {C with x:=λk=>bif Nat.beq k id then C.n else C.x k} hk) ⟨λe h hk=>hk,?_,λ_ e h hk=>hk⟩;rintro k e h ⟨hag,hk⟩;dsimp only at hk ⊢;cases hb:Nat.beq k id with
    | true=>rw [hb] at hk; exact ⟨hag,hk⟩
    | false=>rw [hb] at hk; exact ⟨hag,hk⟩
   ·rename_i js m a;simp only [ZAF] at hk ⊢;cases hc:(ZGS (ZBc A c a) m&&ZGS (ZB8 js) m) with
    | false=>rw [hc] at hk; exact hk.elim
    | true=>
      rw [hc] at hk;simp only [cond_true] at hk ⊢;simp only [Bool.and_eq_true] at hc;refine ZCa (ih a env h {n:=λe h=>toJ js e h λx h=>C.n (envJ A js m env x) h,x:=λk=>bif Nat.beq k id then (λe h=>toJ js e h λx h=>C.n (envJ A js m env x) h) else C.x k,r:=C.r} hk) ⟨?_,?_,λ_ e h hk=>hk⟩
      .rintro e h ⟨hag,hk⟩;exact ZEc (λz h hk=>⟨ZEU hc.2,hk⟩) hk
      .rintro k e h ⟨hag,hk⟩;dsimp only at hk ⊢;cases hb:Nat.beq k id with
       | true=>rw [hb] at hk; exact ZEc (λz h hk=>⟨ZEU hc.2,hk⟩) hk
       | false=>rw [hb] at hk; exact ⟨hag.mono (ZCr hc.1),hk⟩
 | loop c ih=>
   intro a env h C hk;cases a<;>try exact hk.elim
   rename_i js m a;simp only [ZAF] at hk ⊢;cases hc:(ZGS (ZBc A c a) m&&ZGS (ZB8 js) m) with
   | false=>rw [hc] at hk; exact hk.elim
   | true=>
     rw [hc] at hk;simp only [cond_true] at hk ⊢;simp only [Bool.and_eq_true] at hc;split at hk
     .obtain ⟨I,μ,h0,hr⟩:=hk;refine ⟨I,μ,h0,λx h hI=>ZCa (ih a _ h {C with n:=λe h'=>toJ js e h' λx' h'=>I x' h'/\μ x' h'<μ x h} (hr x h hI)) ⟨λe h hk=>hk.2,?_,λ_ e h hk=>hk⟩⟩;rintro k e h ⟨hag,hk⟩;refine ⟨((ZEU hc.2).trans (hag.mono (ZCr hc.1))).mono λs hs=>?_,hk⟩;rw [Nat.testBit_or,Bool.or_self] at hs; exact hs
     .exact hk.elim
 | exit id=>intro a env h C hk; exact ⟨Agr.refl _ _,hk⟩
 | ret=>intro a env h C hk; exact hk
 | scope c ih=>intro a env h C hk; exact hk.elim
 | goto l=>intro a env h C hk; exact hk.elim
 | refuse s=>intro a env h C hk; exact hk.elim
 | rangeFunc f p x y=>intro a env h C hk; exact hk.elim
end
section
variable {A:Ann} {P:Program} {N:Nat} {fr:Hp} {w0:World}
def ZBo (A:Ann) (N:Nat) (fr:Hp) (w0:World) (C:Ct):Exit->Act->World->Prop
 | .normal,a,w=>St A N fr w0 C.n a w
 | .exit id,a,w=>St A N fr w0 (C.x id) a w
 | .ret,a,w=>St A N fr w0 (C.r none) a w
 | .panic ch,a,w=>∃ v,ch=[{v,recovered:=false}]/\St A N fr w0 (C.r (some v)) a w
 | _,_,_=>False
theorem ZLd:∀ {js:JS} {env:Env} {x:JT js},ZW3 js env=some x→∀ s e,ZF4 js x s=some e→env s=e:=by
 intro js
 have g1:∀ {b:Bool} {c:Cdc} {ev:EV} {x:c.T},ZYl b c ev=some x→ev=ev1 b c x:=by
  intro b c ev x h;cases ev with
  | val v=>cases b with
    | true=>cases h
    | false=>simp only [ZYl] at h; simp [ev1,c.law _ _ h]
  | box cs=>cases b with
    | false=>cases h
    | true=>
      simp only [ZYl,Zab] at h;cases hg:c.agg with
      | true=>
        rw [hg] at h;simp [ev1,c.law _ _ h,Value.cells]
      | false=>
        rw [hg] at h;dsimp only at h;split at h
        ·rename_i v;cases ho:ZF7 v with
         | false=>rw [ho] at h; cases h
         | true=>
           rw [ho] at h;simp [ev1,c.law _ _ h,ZFo ho]
        .cases h
  | ref o=>cases h
  | unk=>cases h
 match js with
 | []=>intro env x _ s e h; cases h
 | [(t,b,c)]=>
   intro env x h s e hl;simp only [ZF4] at hl;simp only [ZW3] at h;cases hb:Nat.beq s t with
   | false=>rw [hb] at hl; cases hl
   | true=>
     rw [hb] at hl;simp only [cond_true,Option.some.injEq] at hl;rw [ZFb.1 hb,g1 h,hl]
 | (t,b,c)::y::l=>
   intro env x h s e hl;simp only [ZW3] at h;split at h
   ·rename_i z hz;split at h
    ·rename_i r hr;cases h;simp only [ZF4] at hl;cases hb:Nat.beq s t with
     | true=>
       rw [hb] at hl;simp only [cond_true,Option.some.injEq] at hl;rw [ZFb.1 hb,g1 hz,hl]
     | false=>
       rw [hb] at hl;exact ZLd (js:=y::l) hr s e hl
    .cases h
   .cases h
theorem ZHD:∀ {js:JS} {x:JT js} {s:Nat} {e:EV},ZF4 js x s=some e→∀ o,e≠.ref o:=by
 intro js;have k1:∀ (b:Bool) (c:Cdc) (x:c.T) (o:Nat),ev1 b c x≠.ref o:=by intro b c x o; cases b<;>simp [ev1]
 match js with
 | []=>intro x s e h; cases h
 | [(t,b,c)]=>
   intro x s e h o;simp only [ZF4] at h;cases hb:Nat.beq s t with
   | false=>rw [hb] at h; cases h
   | true=>rw [hb] at h; simp only [cond_true,Option.some.injEq] at h; rw [<-h]; exact k1 _ _ _ _
 | (t,b,c)::y::l=>
   intro x s e h o;simp only [ZF4] at h;cases hb:Nat.beq s t with
   | true=>rw [hb] at h; simp only [cond_true,Option.some.injEq] at h; rw [<-h]; exact k1 _ _ _ _
   | false=>rw [hb] at h; exact ZHD (js:=y::l) h o
theorem Rel.weaken {bx:Nat->Nat} {env env':Env} {a:Act} {h:Hp} {w:World} (R:Rel A N bx env a h fr w0 w) (hw:∀ s,env' s=.unk\/(env' s=env s/\∀ o,env s≠.ref o)):
 Rel A N bx env' a h fr w0 w:=by
 have back:∀ s cs,env' s=.box cs->env s=.box cs:=by
  intro s cs h;rcases hw s with e|⟨e,_⟩
  .rw [e] at h; cases h
  .rw [<-e]; exact h
 refine ⟨R.size,R.defers,R.hle,R.frle,R.dj,R.same,?_,λs cs h=>R.prom s cs (back s cs h),λs t cs ds h1 h2=>R.inj s t cs ds (back s cs h1) (back t ds h2)⟩;intro s;have hs:=R.slot s;rcases hw s with e|⟨e,hne⟩
 .rw [e]; trivial
 .rw [e];cases hes:env s with
  | val v=>rw [hes] at hs; exact hs
  | box cs=>rw [hes] at hs; exact hs
  | ref o=>exact absurd hes (hne o)
  | unk=>trivial
theorem Rel.envJ {js:JS} {m:Nat} {bx:Nat→Nat} {env env':Env} {a:Act} {h:Hp} {w:World} (R:Rel A N bx env' a h fr w0 w) (hag:Agr A m env env') {x:JT js} (hx:ZW3 js env'=some x):
 Rel A N bx (envJ A js m env x) a h fr w0 w:=by
 refine R.weaken λs=>?_
 unfold Eng.envJ
 cases hl:ZF4 js x s with
 | some e=>
   right
   have:=ZLd hx s e hl
   refine ⟨this.symm,λo ho=>?_⟩
   -- what is handed on is a value or a variable
   rw [this] at ho
   exact ZHD hl o ho
 | none=>
   cases hb:(m.testBit s||(A.refOf s).isSome) with
   | true=>left; rfl
   | false=>
     right
     simp only [Bool.or_eq_false_iff] at hb
     have hr:A.refOf s=none:=by cases hr:A.refOf s with
      | none=>rfl
      | some t=>rw [hr] at hb; cases hb.2
     have e:=hag s hb.1 hr
     refine ⟨by simp only [cond_false]; exact e.symm,λo ho=>?_⟩
     have hs:=R.slot s
     rw [ho] at hs
     obtain ⟨t,ht,_⟩:=hs
     rw [hr] at ht; cases ht
theorem Rel.of_heap {bx:Nat->Nat} {env:Env} {a:Act} {h:Hp} {w w':World} (R:Rel A N bx env a h fr w0 w) (hh:w'.heap=w.heap) (hs:ZF0 w w'):Rel A N bx env a h fr w0 w':=
 R.world (λb o hb=>by rw [hh]; exact R.hle b o hb) (λb o hb=>by rw [hh]; exact R.frle b o hb) R.dj hs (λb _ h1 _=>⟨by rw [hh],h1⟩)
theorem ZDe {ops:Array Oper} {l:List Nat} {a:Act} {w:World} {K:Act->World->Prop} {Q:Exit->Act->World->Prop} (hl:ZEp P ops l a w K) (hK:∀ a w,K a w->Q .normal a w)
 (b:Frame) (k:List Item) (cs:List Frame):∃ e a' w',Q e a' w'/\Arrives P (lone (b.at a (.inRegion ops l::k)) cs w) b k cs e a' w':=by
 obtain ⟨a',w',hk,hs⟩:=hl b k cs;exact ⟨.normal,a',w',hK _ _ hk,hs⟩
theorem ZOl (d:Nat) {t:TypeId} {ms:Array (String×TypeId)} (hu:P.underlying t=some (.interface ms)) (t':TypeId) (v:Value) (w:World):(Op.equalIn (d+1) t (.iface t' v) .nilIface).run P w=.ok false w:=by simp [Op.equalIn,Zd hu]
theorem ZUM (d:Nat) {t:TypeId} {ms:Array (String×TypeId)} (hu:P.underlying t=some (.interface ms)) (w:World):(Op.equalIn (d+1) t .nilIface .nilIface).run P w=.ok true w:=by simp [Op.equalIn,Zd hu]
theorem ZUu {bx:Nat→Nat} {env:Env} {a:Act} {h:Hp} {w1:World} (R:Rel A N bx env a h fr w0 w1) {o:Oper} {v:Value} (hv:ZYq A P o env=some v) (w:World):(execOp a.eval o).run P w=.ok (.value v) w:=by
 obtain ⟨dst,op,type,pos,after,guard⟩:=o;unfold ZYq at hv;dsimp only at hv;split at hv
 ·rename_i x xt t;split at hv
  ·rename_i t' u fs hl hu;have e:=R.eval_v hl;cases hb:Nat.beq t' t with
   | true=>
     rw [hb] at hv;simp only [cond_true,Option.some.injEq] at hv;subst hv;have:t'=t:=ZFb.1 hb;subst this;simp [execOp,e,Instr.typeAssert,Zd hu]
   | false=>
     rw [hb] at hv;simp only [cond_false] at hv;split at hv
     .rename_i z hz;simp only [Option.some.injEq] at hv;subst hv;have:t'≠t:=ZTT.1 hb;simp [execOp,e,Instr.typeAssert,Zd hu,this,ZDO hz]
     .cases hv
  .cases hv
 .rename_i t x ty;split at hv
  .rename_i t' u ms hl hu;have e:=R.eval_v hl;simp only [Option.some.injEq] at hv;subst hv;have hq:=ZOl (P:=P) 9999 hu t' u w;simp only [execOp,e,show a.eval (.const .nilIface)=Value.nilIface from rfl,Sem.run_bind,eqGuard,binOp,Op.equal,Op.maxDepth];simp [hq]
  .rename_i ms hl hu;have e:=R.eval_v hl;simp only [Option.some.injEq] at hv;subst hv;have hq:=ZUM (P:=P) 9999 hu w;simp only [execOp,e,show a.eval (.const .nilIface)=Value.nilIface from rfl,Sem.run_bind,eqGuard,binOp,Op.equal,Op.maxDepth];simp [hq]
  .cases hv
 .rename_i c;obtain ⟨callee,args,ats⟩:=c;dsimp only at hv;split at hv
  .rename_i t p len n ht hl;split at hv
   .rename_i e hu;simp only [Option.some.injEq] at hv;subst hv;have hargs:args.map a.eval=#[.slice p len n]:=Array.ext' (by simpa using ZAj R hl);simp [execOp,resolve,invoke,builtin,hargs,Builtin.cap_,ht,Zd hu,goInt]
   .cases hv
  .cases hv
 .cases hv
theorem ZO9 (hP:ZGa P A) {ops:Array Oper}:∀ (l:List Nat) {bx:Nat→Nat} {env:Env} {a:Act} {h:Hp} {w:World} {K:Env→Hp→Prop} {S:Value→Env→Hp→Prop},Rel A N bx env a h fr w0 w→ZP7 A P N ops l env h K S→
 ∀ (b:Frame) (k:List Item) (cs:List Frame),∃ e a' w',((e=Exit.normal/\St A N fr w0 K a' w')\/∃ v,e=.panic [{v,recovered:=false}]/\St A N fr w0 (S v) a' w')/\
  Arrives P (lone (b.at a (.inRegion ops l::k)) cs w) b k cs e a' w':=by
 intro l;induction l with
 | nil=>intro bx env a h w K S R hk b k cs; exact ⟨.normal,a,w,.inl ⟨rfl,_,_,_,R,hk⟩,.one step_region_end⟩
 | cons i l ih=>
   intro bx env a h w K S R hk b k cs;unfold ZP7 at hk;split at hk
   ·rename_i o ho;unfold ZLg at hk;cases hx:isX A P o with
    | false=>
      rw [hx] at hk;obtain ⟨a',w',⟨bx',env',h',R',hk'⟩,hs⟩:=ZES hP R ho hk b l k cs;obtain ⟨e,a2,w2,hq,harr⟩:=ih R' hk' b k cs;exact ⟨e,a2,w2,hq,.of_steps hs harr⟩
    | true=>
    rw [hx] at hk;simp only [cond_true] at hk;have hg:=ZSE hx;have hw:=ZHu (ops:=ops) R (ZTZ.free hg);have hsg:=stepG_op (P:=P) (b:=b) (k:=k) (cs:=cs) (w:=w) (rest:=l) ho hw;have hfin:∀ v,(b.at a (.inRegion ops (i::l)::k)).finish v=b.at (a.put o.dst v) (.inRegion ops l::k):=by intro v; rw [Frame.finish_at,ho]; rfl
    rcases ZI3 hk with ⟨hd,v,hv,hk'⟩|⟨hv,⟨x,t,v,hop,hl,hS⟩|⟨c,hop,hd,⟨g,l',r,fn,bd,hcal,hl,hr,hfn,hb,hc⟩|⟨t,u,p,len,cap,kk,n,e,k',cd,zv,z,hcal,ht,hu,hl,ht',hu',hcd,hzv,hf,hb,hz,hgr⟩⟩⟩
    .obtain ⟨a',w',⟨bx',env',h',R',hk2⟩,hs⟩:=ZDf (a':=a.put o.dst v) (K:=St A N fr w0 λe h=>ZP7 A P N ops l e h K S) ho hw (.inl ⟨v,ZUu R hv w,rfl⟩) ⟨_,_,_,R.put hP.good (ZFP hd) (ev:=.val v) rfl,hk'⟩ b l k cs;obtain ⟨e,a2,w2,hq,harr⟩:=ih R' hk2 b k cs;exact ⟨e,a2,w2,hq,.of_steps hs harr⟩
    .have hrun:(execOp a.eval o).run P w=.halt (.panic (.iface t v)) w:=by obtain ⟨dst,op,type,pos,after,guard⟩:=o;cases hop;simp only [execOp,R.eval_v hl];rfl
     refine ⟨.panic [{v:=.iface t v,recovered:=false}],a,w,.inr ⟨_,rfl,_,_,_,R,hS⟩,.inRegion ops (i::l)::k,.one (step_lone_go ?_)⟩;rw [hsg,<-Frame.raise_at]; simp [stepG.apply,hrun]
    ·have hrun:(execOp a.eval o).run P w=.ok (.enter g l'.toArray) w:=by obtain ⟨dst,op,type,pos,after,guard⟩:=o;cases hop;obtain ⟨callee,args,ats⟩:=c;cases hcal;have hargs:args.map a.eval=l'.toArray:=Array.ext' (by simpa using ZAj R hl);have hng:=hP.noNG g fn hfn;simp only [execOp,resolve,Deferred.ofValue,Act.eval,hargs,Sem.run_bind,Sem.run_pure,Result.andThen_ok,invoke,callFunc,run_program,hfn,hng,Bool.false_eq_true,if_false,hb,Option.isNone_some];congr 2;simp
     obtain ⟨e,w'',fr',⟨v,h',he,hle',hfr,hdj,sm⟩,hsteps,_,hleave⟩:=hc w ((ZE0 bx env w).un fr) R.hle (Hp.un_le R.boxes_le R.frle) (Hp.dj_un R.boxes_dj R.dj) (b.at a (.inRegion ops (i::l)::k)::cs);have R':=R.called hle' hfr hdj sm
     have henter:step P (lone (b.at a (.inRegion ops (i::l)::k)) cs w)=
         .next (lone (Frame.enter P g l'.toArray .normal) (b.at a (.inRegion ops (i::l)::k)::cs) w):=
       step_lone_go (by rw [hsg]; simp [stepG.apply,hrun,Frame.at])
     rcases he with ⟨rfl,x,rfl,hk'⟩|⟨rfl,hS⟩
     .obtain ⟨e,a2,w2,hq,harr⟩:=ih (R'.put hP.good (ZFP hd) (ev:=.val (r.enc x)) rfl) hk' b k cs;refine ⟨e,a2,w2,hq,.of_steps (.head henter (Steps.trans hsteps (.one ?_))) harr⟩;rw [<-hfin]; exact step_leave_returned hleave
     .refine ⟨.panic [{v,recovered:=false}],a,w'',.inr ⟨v,rfl,_,_,_,R',hS⟩,.inRegion ops (i::l)::k,.head henter (Steps.trans hsteps (.one ?_))⟩;rw [<-Frame.raise_at]; exact step_leave_panicked hleave
    .obtain ⟨p',l2,c',h',w',hk',hr,hs⟩:=ZUm (ty:=o.type) (j:=kk) ht hu ht' hu' hf rfl hb.1 hb.2 hzv (cd.law _ _ hz).symm R.hle R.frle R.dj hgr;have hrun:(execOp a.eval o).run P w=.ok (.value (.slice p' l2 c')) w':=by obtain ⟨dst,op,type,pos,after,guard⟩:=o;cases hop;obtain ⟨callee,args,ats⟩:=c;cases hcal;have hargs:args.map a.eval=#[.slice p len cap,.int kk n]:=Array.ext' (by simpa using ZAj R hl);simp only [execOp,resolve,Sem.run_bind,Sem.run_pure,Result.andThen_ok,invoke,builtin,hargs];rw [hr]; rfl
     have R':=R.world hs.hle hs.frle hs.dj hs.same hs.keep;obtain ⟨a',w2,⟨bx',env',h2,R2,hk2⟩,hst⟩:=ZDf (a':=a.put o.dst (.slice p' l2 c')) (w':=w') (K:=St A N fr w0 λe h=>ZP7 A P N ops l e h K S) ho hw (.inl ⟨_,hrun,rfl⟩) ⟨_,_,_,R'.put hP.good (ZFP hd) (ev:=.val _) rfl,hk'⟩ b l k cs;obtain ⟨e,a3,w3,hq,harr⟩:=ih R2 hk2 b k cs;exact ⟨e,a3,w3,hq,.of_steps hst harr⟩
   .exact hk.elim
theorem ZDa (hP:ZGa P A) (hmix:P.follows .mixedOrders=true):∀ (c:Code) (an:An) (bx:Nat→Nat) (env:Env) (a:Act) (h:Hp) (w:World) (C:Ct),
 Rel A N bx env a h fr w0 w->ZAF A P N c an env h C->c.wp P (ZBo A N fr w0 C) a w:=by
 intro c
 induction c with
 | skip=>intro an bx env a h w C R hk; exact wp_skip ⟨_,_,_,R,hk⟩
 | label l=>intro an bx env a h w C R hk; exact wp_label ⟨_,_,_,R,hk⟩
 | region id ops draw=>
   intro an bx env a h w C R hk
   cases an<;>try exact hk.elim
   ·rename_i seq
    cases draw with
    | false=>
      simp only [ZAF] at hk
      have:=ZLH (N:=N) hP (ZCc ops.size) R hk
      rw [show (ZCc ops.size).map Prod.fst=List.range ops.size by simp [ZCc,Function.comp_def]] at this
      intro b k cs
      obtain ⟨e,a',w',hq,ha⟩:=ZDe (Q:=ZBo A N fr w0 C) this (λa w hk=>hk) b k cs
      exact ⟨e,a',w',hq,.of_steps (.one step_region) ha⟩
    | true=>
      simp only [ZAF] at hk
      cases hc:ZG8 A P ops seq with
      | false=>rw [hc] at hk; exact hk.elim
      | true=>
        rw [hc] at hk
        intro b k cs
        have R':Rel A N bx env a h fr w0 {w with drawn:=w.drawn+1}:=R.of_heap rfl ⟨rfl,rfl,rfl⟩
        have:=ZOm (N:=N) hP hc R' hk (w.tape w.drawn (.order b.fn id))
        obtain ⟨e,a',w',hq,ha⟩:=ZDe (Q:=ZBo A N fr w0 C) this (λa w hk=>hk) b k cs
        refine ⟨e,a',w',hq,.of_steps (.one step_region_draw) ?_⟩
        simp only [Region.schedule,hmix,Bool.true_or,if_true]
        exact ha
   ·cases draw with
    | true=>exact hk.elim
    | false=>
      simp only [ZAF] at hk
      intro b k cs
      obtain ⟨e,a',w',hq,ha⟩:=ZO9 (N:=N) hP (List.range ops.size) R hk b k cs
      refine ⟨e,a',w',?_,.of_steps (.one step_region) ha⟩
      rcases hq with ⟨rfl,hq⟩|⟨v,rfl,hq⟩
      .exact hq
      .exact ⟨v,rfl,hq⟩
   ·rename_i t
    cases draw with
    | false=>exact hk.elim
    | true=>
      simp only [ZAF] at hk
      cases hc:ZGd A P ops [] t with
      | false=>rw [hc] at hk; exact hk.elim
      | true=>
        rw [hc] at hk
        intro b k cs
        have R':Rel A N bx env a h fr w0 {w with drawn:=w.drawn+1}:=R.of_heap rfl ⟨rfl,rfl,rfl⟩
        have:=ZF3 (N:=N) hP R' (w.tape w.drawn (.order b.fn id)) t [] hc (λx y h=>by cases h) hk
        obtain ⟨e,a',w',hq,ha⟩:=ZDe (Q:=ZBo A N fr w0 C) this (λa w hk=>hk) b k cs
        refine ⟨e,a',w',hq,.of_steps (.one step_region_draw) ?_⟩
        simp only [Region.schedule,hmix,Bool.true_or,if_true]
        exact ha
 | seq x y ihx ihy=>
   intro an bx env a h w C R hk
   cases an<;>try exact hk.elim
   .rename_i a' b'
    simp only [ZAF] at hk
    refine wp_seq (wp_mono (ihx a' bx env a h w _ R hk) ?_)
    intro e a2 w2 hq
    cases e with
    | normal=>obtain ⟨bx',env',h',R',hk'⟩:=hq; exact ihy b' bx' env' a2 h' w2 C R' hk'
    | exit id=>exact hq
    | ret=>exact hq
    | goto l=>exact hq.elim
    | panic c=>exact hq
    | outgrown=>exact hq.elim
   ·rename_i js m a' b'
    simp only [ZAF] at hk
    cases hc:(ZGS (ZBc A x a') m&&ZGS (ZB8 js) m) with
    | false=>rw [hc] at hk; exact hk.elim
    | true=>
      rw [hc] at hk
      simp only [cond_true,ZY] at hk
      simp only [Bool.and_eq_true] at hc
      refine wp_seq (wp_mono (ihx a' bx env a h w _ R (ZHx x a' env h _ hk)) ?_)
      intro e a2 w2 hq
      cases e with
      | normal=>
        obtain ⟨bx',env',h',R',hag,hk'⟩:=hq
        dsimp only [Ct.agr] at hk'
        unfold toJ at hk'
        split at hk'
        .rename_i z hz
         exact ihy b' bx' _ a2 h' w2 C (R'.envJ (hag.mono (ZCr hc.1)) hz) hk'
        .exact hk'.elim
      | exit id=>obtain ⟨bx',env',h',R',hag,hk'⟩:=hq; exact ⟨bx',env',h',R',hk'⟩
      | ret=>exact hq
      | goto l=>exact hq.elim
      | panic c=>exact hq
      | outgrown=>exact hq.elim
 | cond o x y ihx ihy=>
   intro an bx env a h w C R hk
   cases an<;>try exact hk.elim
   rename_i a' b'
   simp only [ZAF] at hk
   split at hk
   .rename_i t ht
    cases t
    .exact wp_cond (t:=false) (R.eval_v ht) (ihy b' bx env a h w C R hk)
    .exact wp_cond (t:=true) (R.eval_v ht) (ihx a' bx env a h w C R hk)
   .exact hk.elim
 | block id c ih=>
   intro an bx env a h w C R hk
   cases an<;>try exact hk.elim
   ·rename_i a'
    simp only [ZAF] at hk
    refine wp_block (wp_mono (ih a' bx env a h w _ R hk) ?_)
    intro e a2 w2 hq
    cases e with
    | normal=>exact hq
    | exit k=>
      simp only [ZBo] at hq
      unfold Exit.inBlock
      dsimp only
      by_cases e:k=id
      .subst e
       rw [if_pos rfl]
       rw [ZFb.2 rfl] at hq; exact hq
      .rw [if_neg e]
       rw [ZTT.2 e] at hq; exact hq
    | ret=>exact hq
    | goto l=>exact hq.elim
    | panic c=>exact hq
    | outgrown=>exact hq.elim
   ·rename_i js m a'
    simp only [ZAF] at hk
    cases hc:(ZGS (ZBc A c a') m&&ZGS (ZB8 js) m) with
    | false=>rw [hc] at hk; exact hk.elim
    | true=>
      rw [hc] at hk
      simp only [cond_true,ZY] at hk
      simp only [Bool.and_eq_true] at hc
      have fin:∀ {bx':Nat->Nat} {env':Env} {a2:Act} {h':Hp} {w2:World},Rel A N bx' env' a2 h' fr w0 w2->Agr A (ZBc A c a') env env'->toJ js env' h' (λx h=>C.n (Eng.envJ A js m env x) h)->St A N fr w0 C.n a2 w2:=by
       intro bx' env' a2 h' w2 R' hag hk'
       unfold toJ at hk'
       split at hk'
       .rename_i z hz
        exact ⟨_,_,_,R'.envJ (hag.mono (ZCr hc.1)) hz,hk'⟩
       .exact hk'.elim
      refine wp_block (wp_mono (ih a' bx env a h w _ R (ZHx c a' env h _ hk)) ?_)
      intro e a2 w2 hq
      cases e with
      | normal=>obtain ⟨bx',env',h',R',hag,hk'⟩:=hq; exact fin R' hag hk'
      | exit k=>
        obtain ⟨bx',env',h',R',hag,hk'⟩:=hq
        dsimp only [Ct.agr] at hk'
        unfold Exit.inBlock
        dsimp only
        by_cases e:k=id
        .subst e
         rw [if_pos rfl]
         rw [ZFb.2 rfl] at hk'
         exact fin R' hag hk'
        .rw [if_neg e]
         rw [ZTT.2 e] at hk'; exact ⟨bx',env',h',R',hk'⟩
      | ret=>exact hq
      | goto l=>exact hq.elim
      | panic c=>exact hq
      | outgrown=>exact hq.elim
 | loop c ih=>
   intro an bx env a h w C R hk
   cases an<;>try exact hk.elim
   rename_i js m a'
   simp only [ZAF] at hk
   cases hc:(ZGS (ZBc A c a') m&&ZGS (ZB8 js) m) with
   | false=>rw [hc] at hk; exact hk.elim
   | true=>
     rw [hc] at hk
     simp only [cond_true] at hk
     simp only [Bool.and_eq_true] at hc
     split at hk
     ·rename_i x0 hx0
      obtain ⟨I,μ,h0,hr⟩:=hk
      -- the measure,on the machine's side: out of a choice
      let Inv:Nat->Act->World->Prop:=λn a w=>∃ bx' x h',Rel A N bx' (Eng.envJ A js m env x) a h' fr w0 w/\I x h'/\μ x h'=n
      have round:∀ n,∀ a w,Inv n a w→c.wp P (Exit.then (fun a' w'=>∃ n',n'<n∧Inv n' a' w') (ZBo A N fr w0 C)) a w:=by
       rintro n a w ⟨bx',x,h',R',hI,rfl⟩
       refine wp_mono (ih a' bx' _ a h' w _ R' (ZHx c a' _ h' _ (hr x h' hI))) ?_
       intro e a2 w2 hq
       cases e with
       | normal=>
         obtain ⟨bx2,env2,h2,R2,hag,hk2⟩:=hq
         dsimp only [Ct.agr] at hk2
         unfold toJ at hk2
         split at hk2
         ·rename_i x2 hx2
          have hag2:Agr A m env env2:=((ZEU hc.2).trans (hag.mono (ZCr hc.1))).mono fun s hs=>by
              rw [Nat.testBit_or,Bool.or_self] at hs; exact hs
          exact ⟨_,hk2.2,bx2,x2,h2,R2.envJ hag2 hx2,hk2.1,rfl⟩
         .exact hk2.elim
       | exit id=>obtain ⟨bx2,env2,h2,R2,hag,hk2⟩:=hq; exact ⟨bx2,env2,h2,R2,hk2⟩
       | ret=>exact hq
       | goto l=>exact hq.elim
       | panic c=>exact hq
       | outgrown=>exact hq.elim
      -- the loop by strong induction
      intro b k cs
      have key:∀ n a w,Inv n a w→∃ e a' w',ZBo A N fr w0 C e a' w'∧Arrives P (lone (b.at a (.code c::.inLoop c::k)) cs w) b k cs e a' w':=by
       intro n
       induction n using Nat.strongRecOn with
       | _ n ihn=>
         intro a w hI
         obtain ⟨e,a₁,w₁,hq,harr⟩:=round n a w hI b (.inLoop c::k) cs
         cases e with
         | normal=>
           obtain ⟨n',hlt,hI'⟩:=hq
           obtain ⟨e₂,a₂,w₂,hq₂,harr₂⟩:=ihn n' hlt a₁ w₁ hI'
           exact ⟨e₂,a₂,w₂,hq₂,.of_steps (Steps.trans harr (.one step_inLoop)) harr₂⟩
         | exit id=>exact ⟨.exit id,a₁,w₁,hq,.pass (x:=.inLoop c) rfl (λ_ _=>.inl (by simp)) harr⟩
         | ret=>exact ⟨.ret,a₁,w₁,hq,.pass (x:=.inLoop c) rfl (λ_ _=>.inl (by simp)) harr⟩
         | goto l=>exact hq.elim
         | panic ch=>exact ⟨.panic ch,a₁,w₁,hq,.pass (x:=.inLoop c) rfl (λ_ _=>.inl (by simp)) harr⟩
         | outgrown=>exact hq.elim
      obtain ⟨e,a',w',hq,harr⟩:=key _ a w ⟨bx,x0,h,R.envJ (Agr.refl m env) hx0,h0,rfl⟩
      exact ⟨e,a',w',hq,.of_steps (.one step_loop) harr⟩
     .exact hk.elim
 | exit id=>intro an bx env a h w C R hk; exact wp_exit ⟨_,_,_,R,hk⟩
 | ret=>intro an bx env a h w C R hk; exact wp_ret ⟨_,_,_,R,hk⟩
 | scope c ih=>intro an bx env a h w C R hk; exact hk.elim
 | goto l=>intro an bx env a h w C R hk; exact hk.elim
 | refuse s=>intro an bx env a h w C R hk; exact hk.elim
 | rangeFunc f p x y=>intro an bx env a h w C R hk; exact hk.elim
def ZVq (A:Ann) (P:Program):List ResultVar→Env→Hp→(List Value→Prop)→Prop
 | [],_,_,k=>k []
 | .tmp t::l,env,h,k=>match env t with
   | .val v=>ZVq A P l env h λvs=>k (v::vs)
   | _=>False
 | .cell t ty::l,env,h,k=>match env t with
   | .box cs=>match ZAu P ty with
     | some n=>ZJS (ZCU P ty) n cs 0 λe=>match e with
       | .val v=>ZVq A P l env h λvs=>k (v::vs)
       | _=>False
     | none=>False
   | .val (.pointer (some a))=>match A.cdc ty with
     | some c=>bif ZAt P c ty then ZC c a h λx=>ZVq A P l env h λvs=>k (c.enc x::vs) else False
     | none=>False
   | _=>False
def ZJA:List Value->Value
 | [v]=>v
 | vs=>.tuple vs.toArray
def ZWW (A:Ann) (P:Program) (fn:Func) (rc:Cdc) (Q:rc.T->Hp->Prop) (env:Env) (h:Hp):Prop:=
 ZVq A P fn.results.toList env h λvs=>match rc.dec (ZJA vs) with
  | some r=>Q r h
  | none=>False
def ZWE (args:List Value):Env:=λs=>match args[s]? with
 | some v=>.val v
 | none=>.unk
def ZaF (R:Env->Hp->Prop) (S:Value->Env->Hp->Prop):Option Value->Env->Hp->Prop
 | none=>R
 | some v=>S v
def fnD (A:Ann) (P:Program) (f:FuncId) (an:An) (rc:Cdc) (args:List Value) (h:Hp) (Q:rc.T→Hp→Prop):Prop:=
 match A.defs,P.funcs[f]? with
 | [],some fn=>match fn.body with
   | some c=>bif Nat.ble args.length fn.ntmps then
      ZAF A P fn.ntmps c an (ZWE args) h {n:=ZWW A P fn rc Q,x:=λ_ _ _=>False,r:=ZaF (ZWW A P fn rc Q) λ_ _ _=>False}
     else False
   | none=>False
 | _,_=>False
def fnX (A:Ann) (P:Program) (f:FuncId) (an:An) (rc:Cdc) (args:List Value) (h:Hp) (Q:rc.T→Hp→Prop) (S:Value→Hp→Prop):Prop:=
 match A.defs,P.funcs[f]? with
 | [],some fn=>match fn.body with
   | some c=>bif Nat.ble args.length fn.ntmps then
      ZAF A P fn.ntmps c an (ZWE args) h {n:=ZWW A P fn rc Q,x:=λ_ _ _=>False,r:=ZaF (ZWW A P fn rc Q) λv _ h=>S v h}
     else False
   | none=>False
 | _,_=>False
theorem ZUD (hP:ZGa P A) {bx:Nat→Nat} {env:Env} {a:Act} {h:Hp} {w:World} (R:Rel A N bx env a h fr w0 w):∀ (l:List ResultVar) (k:List Value→Prop),ZVq A P l env h k→
 ∃ vs,k vs/\(l.mapM (λ|.tmp t=>pure (a.tmps.getD t undef)|.cell c t=>do loadVar t (<-asAddr (a.tmps.getD c undef)):ResultVar->Sem Value)).run P w=.ok vs w:=by
 intro l;induction l with
 | nil=>intro k hk; exact ⟨[],hk,rfl⟩
 | cons r l ih=>
   intro k hk;cases r with
   | tmp t=>
     simp only [ZVq] at hk;split at hk
     .rename_i v hv;obtain ⟨vs,h1,h2⟩:=ih _ hk;have hs:=R.slot t;rw [hv] at hs;simp only [ZDI] at hs;refine ⟨v::vs,h1,?_⟩;simp only [List.mapM_cons,Sem.run_bind,Sem.run_pure,Result.andThen_ok,h2];simp [hs]
     .exact hk.elim
   | cell t ty=>
     simp only [ZVq] at hk;split at hk
     ·rename_i cs hv;have hs:=R.slot t;rw [hv] at hs;obtain ⟨ht,⟨e,hb⟩,_,_⟩:=hs;split at hk
      ·rename_i n hn;obtain ⟨d,hd⟩:=hP.formed _ _ hn;have fin:∀ v,(loadVar ty ⟨bx t,0,none⟩).run P w=.ok v w→ZVq A P l env h (fun vs=>k (v::vs))→
         ∃ vs,k vs/\((ResultVar.cell t ty::l).mapM (λ|.tmp t=>pure (a.tmps.getD t undef)|.cell c t=>do loadVar t (<-asAddr (a.tmps.getD c undef)):ResultVar->Sem Value)).run P w=.ok vs w:=by
         intro v hv hk
         obtain ⟨vs,h1,h2⟩:=ih _ hk
         refine ⟨v::vs,h1,?_⟩
         have:a.tmps.getD t undef=.pointer (some ⟨bx t,0,none⟩):=by simp [ht]
         rw [List.mapM_cons]
         dsimp only
         rw [Sem.run_bind,Sem.run_bind,this]
         rw [show (asAddr (Value.pointer (some ⟨bx t,0,none⟩)))=pure ⟨bx t,0,none⟩ from rfl]
         simp only [Sem.run_pure,Result.andThen_ok,hv,Sem.run_bind,h2]
       unfold ZJS at hk;cases hg:ZCU P ty with
       | true=>
         rw [hg] at hk;dsimp only at hk;cases hl:Nat.ble (0+n) cs.length with
         | false=>rw [hl] at hk; exact hk.elim
         | true=>
           rw [hl] at hk;have hl:=Nat.le_of_ble_eq_true hl;have:=ZDS (P:=P) (w:=w) hn ⟨d,hd⟩ (cs:=(cs.drop 0).take n) (by simp; omega) (ZN3 (off:=0) hb hl) (by rw [hg]; simp);rw [hg] at this;exact fin _ this hk
       | false=>
         rw [hg] at hk;dsimp only at hk;split at hk
         .rename_i v hv';refine fin v ?_ hk;unfold loadVar;simp only [Sem.run_bind,ZHG hd,hg,Result.andThen_ok,Bool.false_eq_true,if_false];rw [run_load,ZB0 hb,show cs.toArray[0]?=some v by simpa using hv']
         .exact hk.elim
      .exact hk.elim
     ·rename_i ad hv;have hs:=R.slot t;rw [hv] at hs;simp only [ZDI] at hs;split at hk
      ·rename_i c hc;cases hf:ZAt P c ty with
       | false=>rw [hf] at hk; exact hk.elim
       | true=>
         rw [hf] at hk;obtain ⟨y,hy,hk⟩:=hk;obtain ⟨vs,h1,h2⟩:=ih _ hk;refine ⟨c.enc y::vs,h1,?_⟩;have:a.tmps.getD t undef=.pointer (some ad):=by simp [hs]
         rw [List.mapM_cons];dsimp only;rw [Sem.run_bind,Sem.run_bind,this];rw [show (asAddr (Value.pointer (some ad)))=pure ad from rfl];simp only [Sem.run_pure,Result.andThen_ok,ZNN hP hf (ZVV R.hle hy),Sem.run_bind,h2]
      .exact hk.elim
     .exact hk.elim
theorem ZCq (hP:ZGa P A) {fn:Func} {rc:Cdc} {Q:rc.T→Hp→Prop} {bx:Nat→Nat} {env:Env} {a:Act} {h:Hp} {w:World} (R:Rel A N bx env a h fr w0 w) (hk:ZWW A P fn rc Q env h):
 ∃ r,(results fn a.tmps).run P w=.ok (rc.enc r) w/\Q r h:=by
 obtain ⟨vs,hq,hr⟩:=ZUD hP R _ _ hk;split at hq
 .rename_i r hdec;refine ⟨r,?_,hq⟩;rw [rc.law _ _ hdec];have hm:(fn.results.mapM (λ|.tmp t=>pure (a.tmps.getD t undef)|.cell c t=>do loadVar t (<-asAddr (a.tmps.getD c undef)):ResultVar->Sem Value)).run P w=.ok vs.toArray w:=by
   have:fn.results=fn.results.toList.toArray:=by simp
   rw [this,List.mapM_toArray,Sem.run_map,hr]; rfl
  unfold results;rw [Sem.run_bind];have hm':∀ f:ResultVar->Sem Value,f=(λ|.tmp t=>pure (a.tmps.getD t undef)|.cell c t=>do loadVar t (<-asAddr (a.tmps.getD c undef)):ResultVar->Sem Value)->(fn.results.mapM f).run P w=.ok vs.toArray w:=λf hf=>hf▸hm;rw [hm' _ (by funext x; cases x<;>rfl)];simp only [Result.andThen_ok,Sem.run_pure];congr 1;have hone:∀ vs:List Value,(if h:vs.toArray.size=1 then vs.toArray[0] else Value.tuple vs.toArray)=ZJA vs:=by intro vs;rcases vs with _|⟨v,_|⟨u,l⟩⟩<;>simp [ZJA]
  exact hone vs
 .exact hq.elim
theorem ZFQ {N:Nat} {args:List Value} (hb:args.length≤N) (hdf:A.defs=[]) {h fr:Hp} {w:World} (hle:h.le w) (frle:fr.le w) (dj:h.dj fr):
 Rel A N (λ_=>0) (ZWE args) {tmps:=args.toArray++Array.replicate (N-args.toArray.size) undef,defers:=[]} h fr w w:=by
 refine ⟨by simp; omega,hdf.symm,hle,frle,dj,ZF0.refl w,?_,?_,?_⟩
 ·intro s;unfold ZWE;cases hs:args[s]? with
  | none=>trivial
  | some v=>
    have:=(List.getElem?_eq_some_iff.1 hs).1;simp only [ZDI];rw [Array.getElem?_append_left (by simpa using this)];simpa using hs
 .intro s cs hs;unfold ZWE at hs;split at hs<;>cases hs
 .intro s t cs ds hs;unfold ZWE at hs;split at hs<;>cases hs
theorem ZXw (hP:ZGa P A) (hmix:P.follows .mixedOrders=true) {f:FuncId} {an:An} {rc:Cdc} {args:List Value} {h:Hp} {Q:rc.T→Hp→Prop} (hk:fnD A P f an rc args h Q):
 ZHt P f args.toArray h λv h'=>∃ r,v=rc.enc r/\Q r h':=by
 unfold fnD at hk;split at hk
 ·rename_i fn hdf hfn;split at hk
  ·rename_i c hc;cases hb:Nat.ble args.length fn.ntmps with
   | false=>rw [hb] at hk; exact hk.elim
   | true=>
     rw [hb] at hk;have hb:=Nat.le_of_ble_eq_true hb;intro w fr hle frle dj;have R:=ZFQ (A:=A) hb hdf hle frle dj;refine calls_of_wp hfn hc (wp_mono (ZDa hP hmix c an _ _ _ h w _ R hk) ?_);intro e a' w' hq;cases e with
     | normal=>
       obtain ⟨bx,env,h',R',hr⟩:=hq;obtain ⟨r,h1,h2⟩:=ZCq hP R' hr;exact ⟨R'.defers.trans hdf,_,h1,_,h',rfl,⟨r,rfl,h2⟩,R'.hle,R'.frle,R'.dj,R'.same⟩
     | ret=>
       obtain ⟨bx,env,h',R',hr⟩:=hq;obtain ⟨r,h1,h2⟩:=ZCq hP R' hr;exact ⟨R'.defers.trans hdf,_,h1,_,h',rfl,⟨r,rfl,h2⟩,R'.hle,R'.frle,R'.dj,R'.same⟩
     | exit id=>obtain ⟨_,_,_,_,hf⟩:=hq; exact hf.elim
     | goto l=>exact hq.elim
     | panic c=>obtain ⟨_,_,_,_,_,_,hf⟩:=hq; exact hf.elim
     | outgrown=>exact hq.elim
  .exact hk.elim
 .exact hk.elim
theorem ZXJ (hP:ZGa P A) (hmix:P.follows .mixedOrders=true) {f:FuncId} {an:An} {rc:Cdc} {args:List Value} {h:Hp} {Q:rc.T->Hp->Prop} {F:Prop} (e:fnD A P f an rc args h Q=F) (hk:F):ZA P f args rc h Q:=
 ZXw hP hmix (e.mpr hk)
theorem ZOZ (hP:ZGa P A) (hmix:P.follows .mixedOrders=true) {f:FuncId} {an:An} {rc:Cdc} {args:List Value} {h:Hp} {Q:rc.T→Hp→Prop} {S:Value→Hp→Prop} (hk:fnX A P f an rc args h Q S):
 ZEu P f args rc h Q S:=by
 unfold fnX at hk;split at hk
 ·rename_i fn hdf hfn;split at hk
  ·rename_i c hc;cases hb:Nat.ble args.length fn.ntmps with
   | false=>rw [hb] at hk; exact hk.elim
   | true=>
     rw [hb] at hk;have hb:=Nat.le_of_ble_eq_true hb;intro w fr hle frle dj;have R:=ZFQ (A:=A) hb hdf hle frle dj;refine calls_of_wp hfn hc (wp_mono (ZDa hP hmix c an _ _ _ h w _ R hk) ?_);intro e a' w' hq;cases e with
     | normal=>
       obtain ⟨bx,env,h',R',hr⟩:=hq;obtain ⟨r,h1,h2⟩:=ZCq hP R' hr;exact ⟨R'.defers.trans hdf,_,h1,_,h',.inl ⟨rfl,r,rfl,h2⟩,R'.hle,R'.frle,R'.dj,R'.same⟩
     | ret=>
       obtain ⟨bx,env,h',R',hr⟩:=hq;obtain ⟨r,h1,h2⟩:=ZCq hP R' hr;exact ⟨R'.defers.trans hdf,_,h1,_,h',.inl ⟨rfl,r,rfl,h2⟩,R'.hle,R'.frle,R'.dj,R'.same⟩
     | exit id=>obtain ⟨_,_,_,_,hf⟩:=hq; exact hf.elim
     | goto l=>exact hq.elim
     | panic c=>
       obtain ⟨v,rfl,bx,env,h',R',hr⟩:=hq;exact ⟨R'.defers.trans hdf,_,h',.inr ⟨rfl,hr⟩,R'.hle,R'.frle,R'.dj,R'.same⟩
     | outgrown=>exact hq.elim
  .exact hk.elim
 .exact hk.elim
end
section
variable {A:Ann} {P:Program} {N:Nat} {fr:Hp} {w0:World}
def ZQQ (A:Ann) (P:Program) (fn:Func) (rc:Cdc) (Q:rc.T->Hp->Prop) (g:FuncId) (args:List Value):Option Value->Env->Hp->Prop:=
 λo env h=>ZBw P g args o h λh'=>ZWW A P fn rc Q env h'
def ZHm (A:Ann) (d:Deferred):Ann:={A with defs:=[d]}
def ZZ0 (A:Ann) (P:Program) (f:FuncId) (an:An) (rc:Cdc) (args:List Value) (h:Hp) (Q:rc.T→Hp→Prop):Prop:=
 match A.defs,P.funcs[f]? with
 | [],some fn=>match fn.body with
   | some (.seq (.region _ ops0 false) (.seq (.region _ ops1 false) c))=>bif Nat.ble args.length fn.ntmps&&Nat.beq ops1.size 2 then
      ZHf A P fn.ntmps ops0 (ZCc ops0.size) (ZWE args) h fun env h=>match ops1[0]?,ops1[1]? with
          | some om,some od=>ZAV A P fn.ntmps ops1 om env h fun env h=>match od.op,od.guard,od.dst with
            | .defer cl,none,none=>match cl.callee,cl.args.toList with
              | .value x,[]=>match look A env x with
                | .v (.func (.func g) first captured)=>match P.funcs[g]? with
                  | some gn=>match gn.body with
                    | some _=>ZAF (ZHm A ⟨.fn (.func g) captured,first⟩) P fn.ntmps c an env h
                       {n:=ZQQ A P fn rc Q g (first.toList++captured.toList) none,x:=λ_ _ _=>False,r:=ZQQ A P fn rc Q g (first.toList++captured.toList)}
                    | none=>False
                  | none=>False
                | _=>False
              | _,_=>False
            | _,_,_=>False
          | _,_=>False
     else False
   | _=>False
 | _,_=>False
theorem ZQJ {d:Deferred} (hP:ZGa P A):ZGa P (ZHm A d):=⟨hP.good,hP.eqs,hP.dep,hP.noNG,hP.formed⟩
theorem ZTl {d:Deferred} {bx:Nat->Nat} {env:Env} {a:Act} {h:Hp} {w:World} (R:Rel A N bx env a h fr w0 w) (hd:A.defs=[]):Rel (ZHm A d) N bx env {a with defers:=d::a.defers} h fr w0 w:=
 ⟨R.size,by rw [R.defers,hd]; rfl,R.hle,R.frle,R.dj,R.same,R.slot,R.prom,R.inj⟩
theorem ZMW {d:Deferred} {bx:Nat->Nat} {env:Env} {a:Act} {h:Hp} {w:World} (R:Rel (ZHm A d) N bx env a h fr w0 w) (hd:A.defs=[]):Rel A N bx env {a with defers:=[]} h fr w0 w:=
 ⟨R.size,hd.symm,R.hle,R.frle,R.dj,R.same,R.slot,R.prom,R.inj⟩
theorem ZQq (hP:ZGa P A) {id:Nat} {ops:Array Oper} {bx:Nat->Nat} {env:Env} {a:Act} {h:Hp} {w:World} {K:Env->Hp->Prop} (R:Rel A N bx env a h fr w0 w) (hk:ZHf A P N ops (ZCc ops.size) env h K)
 {Q:Exit->Act->World->Prop} (hQ:∀ a w,St A N fr w0 K a w->Q .normal a w):(Code.region id ops false).wp P Q a w:=by
 have:=ZLH (N:=N) hP (ZCc ops.size) R hk;rw [show (ZCc ops.size).map Prod.fst=List.range ops.size by simp [ZCc,Function.comp_def]] at this;intro b k cs;obtain ⟨e,a',w',hq,ha⟩:=ZDe (Q:=Q) this (λa w hk=>hQ a w hk) b k cs;exact ⟨e,a',w',hq,.of_steps (.one step_region) ha⟩
theorem ZPX {ops:Array Oper} {i:Nat} {rest:List Nat} {o:Oper} {b:Frame} {a:Act} {k:List Item} {cs:List Frame} {w:World} {d:Deferred} (ho:ops[i]?=some o) (hg:o.guard=none) (hdst:o.dst=none)
 (hr:(execOp a.eval o).run P w=.ok (.defer d) w):
 step P (lone (b.at a (.inRegion ops (i::rest)::k)) cs w)=.next (lone (b.at {a with defers:=d::a.defers} (.inRegion ops rest::k)) cs w):=by
 have hw:Region.wanted o (yielded ops a.tmps)=true:=by simp [Region.wanted,hg]
 have hsg:=stepG_op (P:=P) (b:=b) (k:=k) (cs:=cs) (w:=w) (rest:=rest) ho hw;refine step_lone_go ?_;have:({b.at a (.inRegion ops (i::rest)::k) with defers:=d::a.defers}:Frame).finish undef=
  b.at ({a with defers:=d::a.defers}.put o.dst undef) (.inRegion ops rest::k):=by
  have:=Frame.finish_at b {a with defers:=d::a.defers} ops i rest k undef
  rw [ho] at this; exact this
 rw [hdst] at this;rw [hsg]; simp only [stepG.apply,Sem.runT_eq,hr,GStep.bare_after];exact congrArg (λfr=>GStep.go {frame:=fr,callers:=cs,status:=.running,dying:=none} w) this
theorem ZJi (hP:ZGa P A) (hdf:A.defs=[]) {fn:Func} {rc:Cdc} {Q:rc.T→Hp→Prop} {g:FuncId} {gn:Func} {gb:Code} {first captured:Array Value} (hgn:P.funcs[g]?=some gn) (hgb:gn.body=some gb)
 {o:Option Value} {u:FrameMode} (hu:u=match o with|none=>.returning|some v=>.panicking [{v,recovered:=false}])
 {bx:Nat->Nat} {env:Env} {a:Act} {h:Hp} {w:World} (R:Rel (ZHm A ⟨.fn (.func g) captured,first⟩) N bx env a h fr w0 w) (hk:ZQQ A P fn rc Q g (first.toList++captured.toList) o env h):
 Leaves P fn a.tmps (λe w'=>∃ v h',e=.returned v/\(∃ r,v=rc.enc r/\Q r h')/\h'.le w'/\fr.le w'/\h'.dj fr/\ZF0 w0 w') a.defers u w:=by
 rw [R.defers];have hng:=hP.noNG g gn hgn;refine leaves_cons (f:=g) (args:=(first.toList++captured.toList).toArray) (by subst hu; cases o<;>simp) ?_ ?_
 .simp only [invoke,callFunc,Sem.run_bind,run_program,Result.andThen_ok,hgn,hng,Bool.false_eq_true,if_false,hgb,Option.isNone_some];congr 2;simp
 ·have R0:=ZMW R hdf;have fin:∀ (u':FrameMode),settle u'=.returning→CallsD P g (first.toList++captured.toList).toArray u w (fun e u2 w'=>∃ v h',e=.returned v∧u2=u'∧ZWW A P fn rc Q env h'∧h'.le w'∧((ZE0 bx env w).un fr).le w'∧h'.dj ((ZE0 bx env w).un fr)∧ZF0 w w')→
   CallsD P g (first.toList++captured.toList).toArray u w fun
    | .returned _,u',w'=>Leaves P fn a.tmps (λe w'=>∃ v h',e=.returned v/\(∃ r,v=rc.enc r/\Q r h')/\h'.le w'/\fr.le w'/\h'.dj fr/\ZF0 w0 w') [] (settle u') w'
    | .panicked chain,u',w'=>Leaves P fn a.tmps (λe w'=>∃ v h',e=.returned v/\(∃ r,v=rc.enc r/\Q r h')/\h'.le w'/\fr.le w'/\h'.dj fr/\ZF0 w0 w') [] (raised u' chain) w'
    | .outgrown,_,w'=>(λe w'=>∃ v h',e=Ending.returned v/\(∃ r,v=rc.enc r/\Q r h')/\h'.le w'/\fr.le w'/\h'.dj fr/\ZF0 w0 w') .outgrown w':=by
   intro u' hs hc
   refine hc.mono ?_
   rintro e u2 w' ⟨v,h',rfl,rfl,hret,hle',hfr,hdj,sm⟩
   have R':=R0.called hle' hfr hdj sm
   obtain ⟨r,h1,h2⟩:=ZCq hP R' hret
   dsimp only
   rw [hs]
   exact ⟨_,h1,_,h',rfl,⟨r,rfl,h2⟩,R'.hle,R'.frle,R'.dj,R'.same⟩
  cases o with
  | none=>
    subst hu;exact fin .returning rfl (hk w _ R0.hle (Hp.un_le R0.boxes_le R0.frle) (Hp.dj_un R0.boxes_dj R0.dj))
  | some v=>
    subst hu;exact fin (.panicking [{v,recovered:=true}]) rfl (hk w _ R0.hle (Hp.un_le R0.boxes_le R0.frle) (Hp.dj_un R0.boxes_dj R0.dj))
theorem ZKj (hP:ZGa P A) (hmix:P.follows .mixedOrders=true) {f:FuncId} {an:An} {rc:Cdc} {args:List Value} {h:Hp} {Q:rc.T→Hp→Prop} (hk:ZZ0 A P f an rc args h Q):ZA P f args rc h Q:=by
 unfold ZZ0 at hk;split at hk
 ·rename_i fn hdf hfn;split at hk
  ·rename_i id0 ops0 id1 ops1 c hbody;cases hb:(Nat.ble args.length fn.ntmps&&Nat.beq ops1.size 2) with
   | false=>rw [hb] at hk; exact hk.elim
   | true=>
     rw [hb] at hk;simp only [cond_true] at hk;simp only [Bool.and_eq_true] at hb;have hb1:=Nat.le_of_ble_eq_true hb.1;have hb2:ops1.size=2:=ZFb.1 hb.2;intro w fr hle frle dj;have R:=ZFQ (A:=A) hb1 hdf hle frle dj;refine calls_of_wp_defers hfn hbody (wp_seq (ZQq hP R hk λa1 w1 hs1=>?_));obtain ⟨bx1,env1,h1,R1,hk1⟩:=hs1;show (Code.seq _ _).wp P _ a1 w1;split at hk1
     ·rename_i om od hom hod;refine wp_seq ?_;intro b k cs;have hr2:List.range ops1.size=[0,1]:=by rw [hb2]; rfl
      obtain ⟨a2,w2,⟨bx2,env2,h2,R2,hk2⟩,hs2⟩:=ZES hP R1 hom hk1 b [1] k cs;obtain ⟨dst,op,type,pos,after,guard⟩:=od;dsimp only at hk2;split at hk2
      ·rename_i cl;split at hk2
       ·rename_i x hcal hargs;split at hk2
        ·rename_i g first captured hl
         split at hk2
         ·rename_i gn hgn;split at hk2
          .rename_i gb hgb;obtain ⟨callee,cargs,cats⟩:=cl;dsimp only at hcal hargs;subst hcal;have hcargs:cargs=#[]:=by simpa using hargs
           subst hcargs;have hrun:(execOp a2.eval ⟨none,.defer ⟨.value x,#[],cats⟩,type,pos,after,none⟩).run P w2=.ok (.defer ⟨.fn (.func g) captured,first⟩) w2:=by simp [execOp,resolve,Deferred.ofValue,R2.eval_v hl]
           have hs3:=ZPX (P:=P) (b:=b) (k:=k) (cs:=cs) (rest:=[]) hod rfl rfl hrun;have R3:=ZTl (d:=⟨.fn (.func g) captured,first⟩) R2 hdf;refine ⟨.normal,{a2 with defers:=⟨.fn (.func g) captured,first⟩::a2.defers},w2,?_,.of_steps (.one step_region) ?_⟩
           .refine wp_mono (ZDa (ZQJ hP) hmix c an _ _ _ h2 w2 _ R3 hk2) ?_;intro e a4 w4 hq;cases e with
            | normal=>obtain ⟨bx,env,h',R',hr⟩:=hq; exact ZJi (fn:=fn) (rc:=rc) (Q:=Q) (o:=none) hP hdf hgn hgb rfl R' hr
            | ret=>obtain ⟨bx,env,h',R',hr⟩:=hq; exact ZJi (fn:=fn) (rc:=rc) (Q:=Q) (o:=none) hP hdf hgn hgb rfl R' hr
            | exit id=>obtain ⟨_,_,_,_,hf⟩:=hq; exact hf.elim
            | goto l=>exact hq.elim
            | panic ch=>obtain ⟨v,rfl,bx,env,h',R',hr⟩:=hq; exact ZJi (fn:=fn) (rc:=rc) (Q:=Q) (o:=some v) hP hdf hgn hgb rfl R' hr
            | outgrown=>exact hq.elim
           .rw [hr2];exact Steps.trans hs2 (.head hs3 (.one step_region_end))
          .exact hk2.elim
         .exact hk2.elim
        .exact hk2.elim
       .exact hk2.elim
      .exact hk2.elim
     .exact hk1.elim
  .exact hk.elim
 .exact hk.elim
def ZI8:Option Value->Value
 | none=>.nilIface
 | some v=>v
def ZPH (A:Ann) (P:Program) (f:FuncId) (an:An) (args:List Value) (o:Option Value) (h:Hp) (K:Hp→Prop):Prop:=
 match A.defs,P.funcs[f]? with
 | [],some fn=>match fn.results.toList,fn.body with
   | [],some (.seq (.region _ ops false) c)=>match ops.toList with
     | [⟨some d0,.call ⟨.builtin .recover,⟨[]⟩,_⟩,_,_,_,none⟩,⟨some d1,.assign (.tmp d2),_,_,_,none⟩]=>
       bif Nat.ble args.length fn.ntmps&&(Nat.ble (d0+1) fn.ntmps&&(Nat.ble (d1+1) fn.ntmps&&Nat.beq d2 d0)) then
         ZAF A P fn.ntmps c an (put A (put A (ZWE args) (some d0) (.val (ZI8 o))) (some d1) (.val (ZI8 o))) h {n:=λ_ h=>K h,x:=λ_ _ _=>False,r:=ZaF (λ_ h=>K h) λ_ _ _=>False}
       else False
     | _=>False
   | _,_=>False
 | _,_=>False
theorem ZEQ (hP:ZGa P A) (hmix:P.follows .mixedOrders=true) {f:FuncId} {an:An} {args:List Value} {o:Option Value} {h:Hp} {K:Hp→Prop} (hk:ZPH A P f an args o h K):ZBw P f args o h K:=by
 unfold ZPH at hk;split at hk
 ·rename_i fn hdf hfn;split at hk
  ·rename_i id ops c hres hbody;split at hk
   ·rename_i d0 ats t0 p0 af0 d1 d2 t1 p1 af1 hops;cases hb:(Nat.ble args.length fn.ntmps&&(Nat.ble (d0+1) fn.ntmps&&(Nat.ble (d1+1) fn.ntmps&&Nat.beq d2 d0))) with
    | false=>rw [hb] at hk; exact hk.elim
    | true=>
      rw [hb] at hk;simp only [cond_true] at hk;simp only [Bool.and_eq_true] at hb;obtain ⟨hb1,hb2,hb3,hb4⟩:=hb;have hb1:=Nat.le_of_ble_eq_true hb1;have hb2:=Nat.le_of_ble_eq_true hb2;have hb3:=Nat.le_of_ble_eq_true hb3;have hb4:d2=d0:=ZFb.1 hb4;subst hb4;have hops':ops=#[⟨some d2,.call ⟨.builtin .recover,#[],ats⟩,t0,p0,af0,none⟩,⟨some d1,.assign (.tmp d2),t1,p1,af1,none⟩]:=by apply Array.ext'; exact hops
      subst hops'
      have key:∀ (u u':FrameMode),(∀ (c₀:Frame) (cs:List Frame),c₀.mode=u→(match recoverD (c₀::cs) with|some (v,cs')=>v=ZI8 o∧cs'={c₀ with mode:=u'}::cs|none=>ZI8 o=.nilIface∧u'=u))→
       ZWM P f args.toArray u u' h K:=by
       intro u u' hrec w fr hle frle dj
       have R:=ZFQ (A:=A) hb1 hdf hle frle dj
       refine callsD_of_wpS hfn hbody λc₀ cs hu=>wpS_seq (wpS_region ?_)
       have R1:=(R.put hP.good (d:=some d2) (λk hk=>by cases hk; exact hb2) (ev:=.val (ZI8 o)) (v:=ZI8 o) rfl)
       have R2:=(R1.put hP.good (d:=some d1) (λk hk=>by cases hk; exact hb3) (ev:=.val (ZI8 o)) (v:=ZI8 o) rfl)
       have hslot:((({tmps:=args.toArray++Array.replicate (fn.ntmps-args.toArray.size) undef,defers:=[]}:Act).put (some d2) (ZI8 o)).eval (.tmp d2))=ZI8 o:=by have:=ZC3 ({tmps:=args.toArray++Array.replicate (fn.ntmps-args.toArray.size) undef,defers:=[]}:Act) (d:=d2) (ZI8 o) (by rw [R.size]; omega);show (Array.getD _ _ _)=_;rw [Array.getD_eq_getD_getElem?,this]; rfl
       have fin:∀ cs',cs'=({c₀ with mode:=u'}:Frame)::cs->c.wpS P (bodyPostS P fn c₀ cs λe u2 w'=>∃ v h',e=.returned v/\u2=u'/\K h'/\h'.le w'/\fr.le w'/\h'.dj fr/\ZF0 w w')
        ((({tmps:=args.toArray++Array.replicate (fn.ntmps-args.toArray.size) undef,defers:=[]}:Act).put (some d2) (ZI8 o)).put (some d1) (ZI8 o)) cs' w:=by
        rintro cs' rfl
        refine wpS_of_wp (wp_mono (ZDa hP hmix c an _ _ _ h w _ R2 hk) ?_)
        have hresults:∀ (t:Array Value) (w:World),(results fn t).run P w=.ok (.tuple #[]) w:=by
         intro t w;have:fn.results=#[]:=by apply Array.ext'; exact hres
         simp [results,this]
        intro e a' w' hq
        cases e with
        | normal=>obtain ⟨bx,env,h',R',hr⟩:=hq; exact ⟨R'.defers.trans hdf,u',rfl,_,hresults _ _,_,h',rfl,rfl,hr,R'.hle,R'.frle,R'.dj,R'.same⟩
        | ret=>obtain ⟨bx,env,h',R',hr⟩:=hq; exact ⟨R'.defers.trans hdf,u',rfl,_,hresults _ _,_,h',rfl,rfl,hr,R'.hle,R'.frle,R'.dj,R'.same⟩
        | exit id=>obtain ⟨_,_,_,_,hf⟩:=hq; exact hf.elim
        | goto l=>exact hq.elim
        | panic ch=>obtain ⟨_,_,_,_,_,_,hf⟩:=hq; exact hf.elim
        | outgrown=>exact hq.elim
       have hrec:=hrec c₀ cs hu
       have hrun1:∀ (a:Act),(execOp a.eval ⟨some d2,.call ⟨.builtin .recover,#[],ats⟩,t0,p0,af0,none⟩).run P w=.ok .recover w:=by intro a; rfl
       show wpOpsS P _ _ [0,1] _ _ _
       simp only [wpOpsS,List.getElem?_toArray,List.getElem?_cons_zero,List.getElem?_cons_succ,Region.wanted,if_true,hrun1]
       split at hrec
       .rename_i v cs' hr
        obtain ⟨rfl,rfl⟩:=hrec
        rw [hr]
        dsimp only
        rw [show (execOp (Act.eval (({tmps:=args.toArray++Array.replicate (fn.ntmps-args.toArray.size) undef,defers:=[]}:Act).put (some d2) (ZI8 o))) ⟨some d1,.assign (.tmp d2),t1,p1,af1,none⟩).run P w=.ok (.value (ZI8 o)) w by
         rw [show execOp (Act.eval (({tmps:=args.toArray++Array.replicate (fn.ntmps-args.toArray.size) undef,defers:=[]}:Act).put (some d2) (ZI8 o))) ⟨some d1,.assign (.tmp d2),t1,p1,af1,none⟩=pure (.value (Act.eval _ (.tmp d2))) from rfl,hslot]; rfl]
        exact fin _ rfl
       .rename_i hr
        obtain ⟨hn,rfl⟩:=hrec
        rw [hr]
        dsimp only
        rw [<-hn]
        rw [show (execOp (Act.eval (({tmps:=args.toArray++Array.replicate (fn.ntmps-args.toArray.size) undef,defers:=[]}:Act).put (some d2) (ZI8 o))) ⟨some d1,.assign (.tmp d2),t1,p1,af1,none⟩).run P w=.ok (.value (ZI8 o)) w by
         rw [show execOp (Act.eval (({tmps:=args.toArray++Array.replicate (fn.ntmps-args.toArray.size) undef,defers:=[]}:Act).put (some d2) (ZI8 o))) ⟨some d1,.assign (.tmp d2),t1,p1,af1,none⟩=pure (.value (Act.eval _ (.tmp d2))) from rfl,hslot]; rfl]
        exact fin _ (by subst hu; rfl)
      cases o with
      | none=>exact key _ _ λc₀ cs hu=>by simp only [recoverD,hu]; exact ⟨rfl,trivial⟩
      | some v=>exact key _ _ λc₀ cs hu=>by simp only [recoverD,hu]; exact ⟨rfl,trivial⟩
   .exact hk.elim
  .exact hk.elim
 .exact hk.elim
end
structure Sl where
 a:Option Addr
 len:Nat
 cap:Nat
inductive Lk where
 | i (k:IntKind)
 | b
 | s
 | p
 | sl
 | c
abbrev Lk.T:Lk->Type
 | .i _=>Int
 | .b=>Bool
 | .s=>ByteArray
 | .p=>Option Addr
 | .sl=>Sl
 | .c=>Option Nat
def Lk.enc:(l:Lk)->l.T->Value
 | .i k,x=>.int k x
 | .b,x=>.bool x
 | .s,x=>.string x
 | .p,x=>.pointer x
 | .sl,x=>.slice x.a x.len x.cap
 | .c,x=>.chan x
def dI (k:IntKind):Value→Option Int
 | .int j n=>match decide (j=k) with
   | true=>some n
   | false=>none
 | _=>none
def dB:Value->Option Bool
 | .bool b=>some b
 | _=>none
def dS:Value->Option ByteArray
 | .string s=>some s
 | _=>none
def dP:Value->Option (Option Addr)
 | .pointer p=>some p
 | _=>none
def dSl:Value->Option Sl
 | .slice a l c=>some ⟨a,l,c⟩
 | _=>none
def dC:Value->Option (Option Nat)
 | .chan c=>some c
 | _=>none
def Lk.dec:(l:Lk)->Value->Option l.T
 | .i k,v=>dI k v
 | .b,v=>dB v
 | .s,v=>dS v
 | .p,v=>dP v
 | .sl,v=>dSl v
 | .c,v=>dC v
theorem Lk.law (l:Lk) (v:Value) (x:l.T) (h:l.dec v=some x):l.enc x=v:=by
 cases l;case i k=>
  simp only [Lk.dec] at h
  unfold dI at h
  split at h
  .split at h
   .rename_i hd; have:=of_decide_eq_true hd; subst this; cases h; rfl
   .cases h
  .cases h
 case b=>simp only [Lk.dec] at h; unfold dB at h; split at h<;>cases h; rfl
 case s=>simp only [Lk.dec] at h; unfold dS at h; split at h<;>cases h; rfl
 case p=>simp only [Lk.dec] at h; unfold dP at h; split at h<;>cases h; rfl
 case sl=>simp only [Lk.dec] at h; unfold dSl at h; split at h<;>cases h; rfl
 case c=>simp only [Lk.dec] at h; unfold dC at h; split at h<;>cases h; rfl
theorem Lk.ecd (l:Lk) (x:l.T):l.dec (l.enc x)=some x:=by
 cases l;case i k=>simp only [Lk.dec,Lk.enc,dI,decide_true]
 all_goals rfl
theorem Lk.one (l:Lk) (x:l.T):ZF7 (l.enc x)=true:=by cases l<;>rfl
abbrev ZPg (l:Lk):Cdc where
 T:=l.T
 enc:=l.enc
 dec:=l.dec
 agg:=false
 n:=1
 law:=l.law
 ecd:=l.ecd
 mem:=true
 form:=λ_ x=>⟨l.one x,rfl⟩
abbrev cI (k:IntKind):Cdc:=ZPg (.i k)
abbrev cB:Cdc:=ZPg .b
abbrev cS:Cdc:=ZPg .s
abbrev cP:Cdc:=ZPg .p
abbrev cSl:Cdc:=ZPg .sl
abbrev cC:Cdc:=ZPg .c
structure FnV where
 g:Nat
 first:Array Value
 cap:Array Value
abbrev cF:Cdc where
 T:=FnV
 enc x:=.func (.func x.g) x.first x.cap
 dec v:=match v with
  | .func (.func g) a b=>some ⟨g,a,b⟩
  | _=>none
 agg:=false
 n:=1
 law:=by
  intro v x h;split at h
  .cases h; rfl
  .cases h
 ecd:=λ_=>rfl
 mem:=true
 form:=λ_ _=>⟨rfl,rfl⟩
abbrev cM:Cdc where
 T:=Option Nat
 enc x:=.map x
 dec v:=match v with
  | .map x=>some x
  | _=>none
 agg:=false
 n:=1
 law:=by
  intro v x h;split at h
  .cases h; rfl
  .cases h
 ecd:=λ_=>rfl
 mem:=true
 form:=λ_ _=>⟨rfl,rfl⟩
abbrev LT:List Lk->Type
 | []=>Unit
 | [x]=>x.T
 | x::y::l=>x.T×LT (y::l)
def ZJz:(l:List Lk)->LT l->List Value
 | [],_=>[]
 | [x],v=>[x.enc v]
 | x::y::l,v=>x.enc v.1::ZJz (y::l) v.2
def ZYA:(l:List Lk)→List Value→Option (LT l)
 | [],vs=>match vs with
   | []=>some ()
   | _::_=>none
 | [x],vs=>match vs with
   | [v]=>x.dec v
   | _=>none
 | x::y::l,vs=>match vs with
   | v::vs=>match x.dec v with
     | some z=>match ZYA (y::l) vs with
       | some r=>some (z,r)
       | none=>none
     | none=>none
   | []=>none
theorem ZT2:∀ (l:List Lk) (vs:List Value) (x:LT l),ZYA l vs=some x→ZJz l x=vs:=by
 intro l;induction l with
 | nil=>intro vs x h; cases vs<;>first|rfl|cases h
 | cons t l ih=>
   cases l with
   | nil=>
     intro vs x h;match vs,h with
     | [v],h=>exact congrArg (λz=>[z]) (t.law v x h)
   | cons u l=>
     intro vs x h;match vs,h with
     | v::vs,h=>
       unfold ZYA at h;dsimp only at h;split at h
       .rename_i z hz;split at h
        .rename_i r hr;cases h;show t.enc z::ZJz (u::l) r=_;rw [t.law v z hz,ih vs r hr]
        .cases h
       .cases h
theorem ZTr:∀ (l:List Lk) (x:LT l),ZYA l (ZJz l x)=some x:=by
 intro l;induction l with
 | nil=>intro x; rfl
 | cons t l ih=>
   cases l with
   | nil=>intro x; exact t.ecd x
   | cons u l=>
     intro x;have h1:=t.ecd x.1;have h2:=ih x.2;unfold ZJz ZYA;dsimp only;rw [h1];dsimp only;rw [h2]
theorem ZNM:∀ (l:List Lk) (x:LT l),(ZJz l x).length=l.length:=by
 intro l;induction l with
 | nil=>intro x; rfl
 | cons t l ih=>
   cases l with
   | nil=>intro x; rfl
   | cons u l=>intro x; exact congrArg (·+1) (ih x.2)
theorem ZUn:∀ (l:List Lk) (x:LT l),∀ v∈ZJz l x,ZF7 v=true:=by
 intro l;induction l with
 | nil=>intro x v hv; cases hv
 | cons t l ih=>
   cases l with
   | nil=>intro x v hv; rw [show ZJz [t] x=[t.enc x] from rfl,List.mem_singleton] at hv; subst hv; exact t.one x
   | cons u l=>
     intro x v hv;rw [show ZJz (t::u::l) x=t.enc x.1::ZJz (u::l) x.2 from rfl,List.mem_cons] at hv;rcases hv with rfl|hv
     .exact t.one _
     .exact ih x.2 v hv
def ZaR {S:Type} (l:List Lk) (to:LT l→S):Value→Option S
 | .agg a=>match ZYA l a.toList with
   | some x=>some (to x)
   | none=>none
 | _=>none
abbrev ZC7 (S:Type) (l:List Lk) (to:LT l→S) (of:S→LT l) (h1:∀ x,of (to x)=x) (h2:∀ s,to (of s)=s):Cdc where
 T:=S
 enc s:=.agg (ZJz l (of s)).toArray
 dec:=ZaR l to
 agg:=true
 n:=l.length
 law:=by
  intro v x h;unfold ZaR at h;split at h
  .split at h
   .rename_i y hy;cases h;rw [h1,ZT2 l _ y hy]
   .cases h
  .cases h
 ecd:=by intro x;simp only [ZaR,ZTr,h2]
 mem:=true
 form:=λ_ x=>⟨_,rfl,ZNM l _,ZUn l _⟩
abbrev TT:List Cdc->Type
 | []=>Unit
 | [x]=>x.T
 | x::y::l=>x.T×TT (y::l)
def ZYB:(l:List Cdc)->TT l->List Value
 | [],_=>[]
 | [x],v=>[x.enc v]
 | x::y::l,v=>x.enc v.1::ZYB (y::l) v.2
def ZYD:(l:List Cdc)→List Value→Option (TT l)
 | [],vs=>match vs with
   | []=>some ()
   | _::_=>none
 | [x],vs=>match vs with
   | [v]=>x.dec v
   | _=>none
 | x::y::l,vs=>match vs with
   | v::vs=>match x.dec v with
     | some z=>match ZYD (y::l) vs with
       | some r=>some (z,r)
       | none=>none
     | none=>none
   | []=>none
theorem ZUB:∀ (l:List Cdc) (vs:List Value) (x:TT l),ZYD l vs=some x→ZYB l x=vs:=by
 intro l;induction l with
 | nil=>intro vs x h; cases vs<;>first|rfl|cases h
 | cons t l ih=>
   cases l with
   | nil=>
     intro vs x h;match vs,h with
     | [v],h=>exact congrArg (λz=>[z]) (t.law v x h)
   | cons u l=>
     intro vs x h;match vs,h with
     | v::vs,h=>
       unfold ZYD at h;dsimp only at h;split at h
       .rename_i z hz;split at h
        .rename_i r hr;cases h;show t.enc z::ZYB (u::l) r=_;rw [t.law v z hz,ih vs r hr]
        .cases h
       .cases h
theorem ZVD:∀ (l:List Cdc) (x:TT l),ZYD l (ZYB l x)=some x:=by
 intro l;induction l with
 | nil=>intro x; rfl
 | cons t l ih=>
   cases l with
   | nil=>intro x; exact t.ecd x
   | cons u l=>
     intro x;have h1:=t.ecd x.1;have h2:=ih x.2;unfold ZYB ZYD;dsimp only;rw [h1];dsimp only;rw [h2]
def ZSx (l:List Cdc):Value->Option (TT l)
 | .tuple a=>ZYD l a.toList
 | _=>none
abbrev ZW (l:List Cdc):Cdc where
 T:=TT l
 enc x:=.tuple (ZYB l x).toArray
 dec:=ZSx l
 agg:=false
 n:=0
 law:=by
  intro v x h;unfold ZSx at h;split at h
  .rw [ZUB l _ x h]
  .cases h
 ecd:=by intro x; simp only [ZSx,ZVD]
 mem:=false
 form:=λh=>by cases h
def ZCW:List Nat->Nat->Bool
 | [],_=>false
 | x::l,n=>bif Nat.beq n x then true else ZCW l n
theorem ZVK {l:List Nat} {n:Nat}:ZCW l n=true→n∈l:=by
 induction l with
 | nil=>intro h; cases h
 | cons x l ih=>
   intro h;unfold ZCW at h;cases hb:Nat.beq n x with
   | true=>rw [ZFb.1 hb]; exact List.mem_cons_self
   | false=>rw [hb] at h; exact List.mem_cons_of_mem _ (ih h)
def ZMQ (P:Program) (i:TypeInfo):Bool:=
 match i.desc with
 | .named _ u=>(P.info? u).isSome
 | _=>true
theorem ZMx {info:TypeId→Option TypeInfo} {d:TypeDesc} {i:TypeInfo} (h:Made.reckon info d=some i):∀ n u,i.desc≠.named n u:=by
 intro n u hd;unfold Made.reckon at h;cases d<;>dsimp only at h;case struct fs=>
  unfold Made.reckonStruct at h
  simp only [Option.pure_def,Option.bind_eq_bind,Option.bind_eq_some_iff] at h
  obtain ⟨r,_,h⟩:=h
  split at h<;>(cases h; cases hd)
 all_goals first|(cases h; done)|skip
 case pointer e=>
  cases he:info e with
  | none=>rw [he] at h; cases h
  | some x=>
    rw [he] at h;change (match x.desc with
     | .named _ _=>none
     | .struct fs=>if fs.any (·.embedded) then none else _
     | _=>_)=some i at h
    cases hs:Made.spell x with
    | none=>simp only [hs] at h; split at h<;>first|(cases h; done)|(split at h<;>cases h; done)
    | some y=>simp only [hs] at h; split at h<;>first|(cases h; done)|(cases h; cases hd; done)|(split at h<;>first|(cases h; done)|(cases h; cases hd; done))
 case slice e=>
  simp only [Option.pure_def,Option.bind_eq_bind,Option.bind_eq_some_iff,Made.word] at h
  obtain ⟨x,_,y,_,h⟩:=h
  cases h; cases hd
 case map k e=>
  simp only [Option.pure_def,Option.bind_eq_bind,Option.bind_eq_some_iff,Made.word] at h
  obtain ⟨x,_,y,_,z,_,v,_,h⟩:=h
  cases h; cases hd
 case chan d e=>
  simp only [Option.pure_def,Option.bind_eq_bind,Option.bind_eq_some_iff,Made.word] at h
  obtain ⟨x,_,y,_,h⟩:=h
  cases h; cases hd
 case func ps rs v=>
  simp only [Option.pure_def,Option.bind_eq_bind,Option.bind_eq_some_iff,Made.word] at h
  obtain ⟨x,_,h⟩:=h
  cases h; cases hd
 case array n e=>
  simp only [Option.pure_def,Option.bind_eq_bind,Option.bind_eq_some_iff] at h
  obtain ⟨x,_,y,_,h⟩:=h
  cases h; cases hd
theorem ZMy {T:Tables}:∀ (f:Nat) {t:TypeId} {i:TypeInfo},¬t<T.types.size→Made.infoAt T f t=some i→∀ n u,i.desc≠.named n u:=by
 intro f;cases f with
 | zero=>intro t i _ h; cases h
 | succ f=>
   intro t i ht h;unfold Made.infoAt at h;rw [if_neg ht] at h;simp only [Option.bind_eq_some_iff] at h;obtain ⟨d,_,h⟩:=h;exact ZMx h
def ZPc (P:Program):Bool:=
 P.types.toList.all (ZMQ P)&&P.funcs.toList.all λfn=>!(fn.name == "runtime.NumGoroutine")
theorem ZSq {P:Program} (h:ZPc P=true):ZVy P:=by
 intro t n hn;simp only [ZPc,Bool.and_eq_true,List.all_eq_true] at h;unfold ZAu at hn;cases hi:P.info? t with
 | none=>rw [hi] at hn; cases hn
 | some i=>
   unfold Program.underlying;rw [hi];cases hd:i.desc with
   | named nm u=>
     have hnamed:ZMQ P i=true:=by
      by_cases ht:t<P.types.size
      .have:P.types[t]?=some i:=by unfold Tables.info? at hi;rw [if_pos ht] at hi; exact hi
       exact h.1 i (Array.mem_toList_iff.2 (Array.mem_of_getElem? this))
      .unfold Tables.info? at hi;rw [if_neg ht] at hi;exact absurd hd (ZMy _ ht hi _ _)
     unfold ZMQ at hnamed;rw [hd] at hnamed;dsimp only at hnamed;obtain ⟨j,hj⟩:=Option.isSome_iff_exists.1 hnamed;refine ⟨j.desc,?_⟩;obtain ⟨desc,_⟩:=i;cases hd;simp [hj]
   | _=>
     refine ⟨i.desc,?_⟩;obtain ⟨desc,_⟩:=i;cases hd;rfl
theorem ZXv {P:Program} (h:ZPc P=true):ZaY P:=by intro g fn hg;simp only [ZPc,Bool.and_eq_true,List.all_eq_true] at h;have:=h.2 fn (Array.mem_toList_iff.2 (Array.mem_of_getElem? hg));simpa using this
def ZYu (A:Ann):Bool:=A.refs.all λx=>!A.isProm x.1
theorem ZMN:∀ {l:List (Nat×Nat)} {s t:Nat},ZJV l s=some t→(s,t)∈l:=by
 intro l;induction l with
 | nil=>intro s t h; cases h
 | cons x l ih=>
   intro s t h;obtain ⟨a,b⟩:=x;unfold ZJV at h;cases hb:Nat.beq s a with
   | true=>rw [hb] at h; simp only [cond_true,Option.some.injEq] at h; rw [ZFb.1 hb,h]; exact List.mem_cons_self
   | false=>rw [hb] at h; exact List.mem_cons_of_mem _ (ih h)
theorem ZDi {P:Program} {A:Ann} {l:List Nat} (hp:ZPc P=true) (hd:Nat.ble 20 P.depth=true) (hl:l.all (ZVj P 20)=true) (he:A.eqs=ZCW l) (hg:ZYu A=true):ZGa P A where
 good:=by intro s t h;have:=List.all_eq_true.1 hg _ (ZMN h);simpa using this
 eqs:=by intro t h;rw [he] at h;exact List.all_eq_true.1 hl t (ZVK h)
 dep:=Nat.le_of_ble_eq_true hd
 noNG:=ZXv hp
 formed:=ZSq hp
def On (h:Hp) (l:List Hp):Prop:=l.Pairwise Hp.dj/\∀ c∈l,c.sub h
theorem On.mem {h:Hp} {l:List Hp} (o:On h l) {c:Hp} (hc:c∈l):c.sub h:=o.2 c hc
theorem On.get {h:Hp} {l:List Hp} (o:On h l) {i:Nat} {c:Hp} (hc:l[i]?=some c):c.sub h:=o.2 c (List.mem_of_getElem? hc)
theorem On.nil (h:Hp):On h []:=⟨List.Pairwise.nil,λ_ h=>by cases h⟩
theorem On.self (h:Hp):On h [h]:=⟨List.pairwise_singleton _ _,λc hc=>by rw [List.mem_singleton] at hc; subst hc; exact Hp.sub_refl _⟩
theorem On.perm {h:Hp} {l l':List Hp} (o:On h l) (p:l.Perm l'):On h l':=
 ⟨(p.pairwise_iff λhd=>Hp.dj_symm hd).1 o.1,λc hc=>o.2 c (p.mem_iff.2 hc)⟩
theorem On.sublist {h:Hp} {l l':List Hp} (o:On h l) (s:l'.Sublist l):On h l':=⟨o.1.sublist s,λc hc=>o.2 c (s.subset hc)⟩
theorem On.tail {h:Hp} {c:Hp} {l:List Hp} (o:On h (c::l)):On h l:=o.sublist (List.sublist_cons_self c l)
theorem On.swap {h:Hp} {c d:Hp} {l:List Hp} (o:On h (c::d::l)):On h (d::c::l):=o.perm (List.Perm.swap d c l)
theorem On.rot3 {h:Hp} {a b c:Hp} {l:List Hp} (o:On h (a::b::c::l)):On h (c::a::b::l):=
 o.perm ((List.Perm.cons a (List.Perm.swap c b l)).trans (List.Perm.swap c a _))
theorem On.pull {h:Hp} {l:List Hp} (o:On h l) (i:Nat) {c:Hp} (hc:l[i]?=some c):On h (c::l.eraseIdx i):=by
 have:l.Perm (c::l.eraseIdx i):=by
  induction l generalizing i with
  | nil=>cases hc
  | cons x l ih=>
    cases i with
    | zero=>simp at hc; subst hc; exact List.Perm.refl _
    | succ i=>
      simp only [List.getElem?_cons_succ] at hc;exact (List.Perm.cons x (ih (o.tail) i hc)).trans (List.Perm.swap c x _)
 exact o.perm this
theorem On.apart {h:Hp} {c d:Hp} {l:List Hp} (o:On h (c::l)) (hd:d∈l):c.dj d:=(List.pairwise_cons.1 o.1).1 d hd
theorem Hp.sub_dj {c c' d:Hp} (s:c'.sub c) (hd:c.dj d):c'.dj d:=by
 intro b;rcases hd b with e|e
 .left;cases hc:c' b with
  | none=>rfl
  | some o=>rw [s _ _ hc] at e; cases e
 .exact .inr e
theorem Hp.sub_trans {a b c:Hp} (h1:a.sub b) (h2:b.sub c):a.sub c:=λ_ _ h=>h2 _ _ (h1 _ _ h)
theorem On.split {h:Hp} {c:Hp} {l cs:List Hp} (o:On h (c::l)) (oc:On c cs):On h (cs++l):=by
 refine ⟨List.pairwise_append.2 ⟨oc.1,o.tail.1,λx hx y hy=>Hp.sub_dj (oc.2 x hx) (o.apart hy)⟩,λx hx=>?_⟩;rcases List.mem_append.1 hx with hx|hx
 .exact Hp.sub_trans (oc.2 x hx) (o.2 c (by simp))
 .exact o.2 x (by simp [hx])
theorem Hp.sub_un_l (a b:Hp):a.sub (a.un b):=λk o h=>by simp [Hp.un,h]
theorem Hp.sub_un_r {a b:Hp} (d:a.dj b):b.sub (a.un b):=λk o h=>by
 rcases d k with e|e
 .simp [Hp.un,e,h]
 .rw [h] at e; cases e
def ZJb:List Hp->Hp
 | []=>Hp.emp
 | c::l=>c.un (ZJb l)
theorem On.joined {h:Hp}:∀ {cs l:List Hp},On h (cs++l)→On h (ZJb cs::l)∧On (ZJb cs) cs:=by
 intro cs;induction cs with
 | nil=>
   intro l o;refine ⟨⟨List.pairwise_cons.2 ⟨λd _ b=>.inl rfl,o.1⟩,λc hc=>?_⟩,On.nil _⟩;rcases List.mem_cons.1 hc with rfl|hc
   .intro b o h; cases h
   .exact o.2 c hc
 | cons c cs ih=>
   intro l o;obtain ⟨h1,h2⟩:=ih o.tail;have hcd:c.dj (ZJb cs):=by
    have:∀ {cs':List Hp},(∀ d∈cs',c.dj d)->c.dj (ZJb cs'):=by
     intro cs';induction cs' with
     | nil=>intro _ b; exact .inr rfl
     | cons x cs' ih=>intro hx; exact Hp.dj_un (hx x (by simp)) (ih λd hd=>hx d (by simp [hd]))
    exact this λd hd=>o.apart (by simp [hd])
   refine ⟨⟨List.pairwise_cons.2 ⟨λd hd=>Hp.un_dj (o.apart (by simp [hd])) (h1.apart hd),h1.tail.1⟩,λd hd=>?_⟩,⟨List.pairwise_cons.2 ⟨λd hd=>o.apart (by simp [hd]),h2.1⟩,λd hd=>?_⟩⟩
   .rcases List.mem_cons.1 hd with rfl|hd
    .intro k ob hk;unfold ZJb Hp.un at hk;split at hk
     .rename_i o' e; cases hk; exact o.2 c (by simp) _ _ e
     .exact h1.2 (ZJb cs) (by simp) _ _ hk
    .exact h1.2 d (by simp [hd])
   .rcases List.mem_cons.1 hd with rfl|hd
    .exact Hp.sub_un_l _ _
    .exact Hp.sub_trans (h2.2 d hd) (Hp.sub_un_r hcd)
theorem On.upd {h:Hp} {c:Hp} {l:List Hp} (o:On h (c::l)) {b:Nat} {ob:Obj} (hb:c b=some ob) (o':Obj):On (h.upd b o') (c.upd b o'::l):=by
 have hd:∀ d∈l,d b=none:=λd hd=>by
  rcases o.apart hd b with e|e
  .rw [hb] at e; cases e
  .exact e
 refine ⟨List.pairwise_cons.2 ⟨λd hd'=>Hp.upd_dj (o.apart hd') (hd d hd') o',o.tail.1⟩,λd hm=>?_⟩;rcases List.mem_cons.1 hm with rfl|hl
 .intro k ob hk;unfold Hp.upd at hk ⊢;split at hk
  .rename_i e; rw [if_pos e]; exact hk
  .rename_i e; rw [if_neg e]; exact o.2 c (by simp) _ _ hk
 .intro k ob hk;unfold Hp.upd;by_cases e:k=b
  .subst e; rw [hd d hl] at hk; cases hk
  .rw [if_neg e]; exact o.2 d (by simp [hl]) _ _ hk
theorem On.new {h:Hp} {l:List Hp} (o:On h l) {b:Nat} (hb:h b=none) (ob:Obj):On (h.upd b ob) (Hp.one b ob::l):=by
 have hd:∀ d∈l,d b=none:=λd hd=>by
  cases e:d b with
  | none=>rfl
  | some x=>rw [o.2 d hd _ _ e] at hb; cases hb
 refine ⟨List.pairwise_cons.2 ⟨λd hd' k=>?_,o.1⟩,λd hd'=>?_⟩
 .by_cases e:k=b
  .subst e; exact .inr (hd d hd')
  .left; simp [Hp.one,e]
 .rcases List.mem_cons.1 hd' with rfl|hd'
  .intro k ob' hk;unfold Hp.one at hk;split at hk
   .rename_i e; subst e; simpa [Hp.upd] using hk
   .cases hk
  .exact Hp.sub_trans (o.2 d hd') (Hp.sub_upd hb ob)
def ob (b:Nat) (vs:List Value) (e:TypeId):Hp:=Hp.one b (.cells vs.toArray e (0,0))
theorem ZJR (b:Nat) (vs:List Value) (e:TypeId):ob b vs e b=some (.cells vs.toArray e (0,0)):=by simp [ob,Hp.one]
theorem ZX6 (b:Nat) (vs:List Value) (e:TypeId) (i:Nat):(ob b vs e).cell? ⟨b,i,none⟩=vs[i]?:=by simp [Hp.cell?,ZJR]
theorem ZH3 (b:Nat) (o o':Obj):(Hp.one b o).upd b o'=Hp.one b o':=by funext k; unfold Hp.one Hp.upd; by_cases e:k=b<;>simp [e]
theorem ZCY (b i n:Nat):(⟨b,i,none⟩:Addr).add n=⟨b,i+n,none⟩:=by unfold Addr.add; by_cases h:n=0<;>simp [h]
theorem ZBH {a:Addr} (ha:a.spot=none) (n:Nat):a.add n=⟨a.block,a.off+n,none⟩:=by obtain ⟨b,i,s⟩:=a; cases ha; exact ZCY b i n
@[simp] theorem ZYx (a:Addr):a.add 0=a:=rfl
theorem ZCS {b:Nat} {vs:List Value} {e:TypeId} {i:Nat} {cs:List Value} (hc:(vs.drop i).take cs.length=cs):(ob b vs e).rds ⟨b,i,none⟩ cs:=by
 intro j v hj;rw [ZCY,ZX6];have hlt:j<cs.length:=by
  rcases Nat.lt_or_ge j cs.length with h|h
  .exact h
  .rw [List.getElem?_eq_none h] at hj; cases hj
 rw [<-hc,List.getElem?_take_of_lt hlt,List.getElem?_drop] at hj;exact hj
theorem ZI {h:Hp} {l:List Hp} (o:On h l) (k:Nat) {b:Nat} {vs:List Value} {e:TypeId} (hk:l[k]?=some (ob b vs e)) {cd:Cdc} {i:Nat} {x:cd.T} {K:cd.T->Prop}
 (hx:(vs.drop i).take (cd.enc x).cells.toList.length=(cd.enc x).cells.toList) (h2:K x):ZC cd ⟨b,i,none⟩ h K:=
 ⟨x,Hp.sub_rds (o.get hk) (ZCS hx),h2⟩
theorem ZJM {c:Hp} {b i:Nat} {cs:List Value} {e:TypeId} {fz:Nat×Nat} (hb:c b=some (.cells cs.toArray e fz)) (v:Value):
 c.setCell ⟨b,i,none⟩ v=c.upd b (.cells (cs.set i v).toArray e fz):=by
 funext k;unfold Hp.setCell Hp.upd;by_cases hk:k=b
 .subst hk; simp [hb,ZNQ]
 .simp [hk]
theorem upd_upd (c:Hp) (b:Nat) (o o':Obj):(c.upd b o).upd b o'=c.upd b o':=by funext k; unfold Hp.upd; by_cases e:k=b<;>simp [e]
theorem ZTg (cs:List Value) (i:Nat):ZFD cs i []=cs:=by simp [ZFD]
theorem ZU0 (cs:List Value) (i:Nat) (v:Value) (l:List Value) (hi:i+(l.length+1)<=cs.length):ZFD (cs.set i v) (i+1) l=ZFD cs i (v::l):=by unfold ZFD;rw [List.take_set,List.drop_set_of_lt (by omega)];rw [List.take_succ_eq_append_getElem (by omega),List.set_append_right _ _ (by simp; omega)];simp only [List.length_take,Nat.min_eq_left (show i<=cs.length by omega),Nat.sub_self,List.set_cons_zero,List.append_assoc,List.cons_append,List.nil_append,List.length_cons];rw [show i+1+l.length=i+(l.length+1) by omega]
theorem ZTP {b:Nat} {e:TypeId} {fz:Nat×Nat}:∀ (vs:List Value) (c:Hp) (i j:Nat) (cs:List Value),c b=some (.cells cs.toArray e fz)→i+j+vs.length≤cs.length→
 c.wrs ⟨b,i,none⟩ j vs=c.upd b (.cells (ZFD cs (i+j) vs).toArray e fz):=by
 intro vs;induction vs with
 | nil=>
   intro c i j cs hb _;rw [ZTg];funext k;unfold Hp.wrs Hp.upd;by_cases hk:k=b
   .subst hk; rw [if_pos rfl,hb]
   .rw [if_neg hk]
 | cons v l ih=>
   intro c i j cs hb hl;simp only [List.length_cons] at hl;show (c.setCell ((⟨b,i,none⟩:Addr).add j) v).wrs ⟨b,i,none⟩ (j+1) l=_;rw [ZCY,ZJM hb];rw [ih _ i (j+1) (cs.set (i+j) v) (by simp [Hp.upd]) (by simp; omega),upd_upd,show i+(j+1)=i+j+1 by omega,ZU0 cs (i+j) v l (by omega)]
theorem ZBK {c:Hp} {b i n:Nat} {cs:List Value} {e:TypeId} {fz:Nat×Nat} (hb:c b=some (.cells cs.toArray e fz)) (hl:i+n<=cs.length) (hf:∀ k,i<=k->k<i+n->¬(fz.1<=k/\k<fz.2)):
 c.may ⟨b,i,none⟩ n:=by
 intro k hk;rw [ZCY];obtain ⟨lo,hi⟩:=fz;have hlt:i+k<cs.length:=by omega
 have hf:=hf (i+k) (by omega) (by omega);refine ⟨⟨cs[i+k],by simp [Hp.cell?,hb,hlt]⟩,?_⟩;simp only [Hp.frozen?,hb];simpa using hf
theorem Hp.sub_may {c h:Hp} (s:c.sub h) {a:Addr} {n:Nat} (m:c.may a n):h.may a n:=by
 intro i hi;obtain ⟨⟨v,hv⟩,hf⟩:=m i hi;refine ⟨⟨v,Hp.sub_cell s hv⟩,?_⟩;unfold Hp.cell? at hv;unfold Hp.frozen? at hf ⊢;cases hb:c (a.add i).block with
 | none=>rw [hb] at hv; cases hv
 | some o=>rw [hb] at hf; rw [s _ _ hb]; exact hf
theorem On.wrs {h:Hp} {c:Hp} {l:List Hp} (o:On h (c::l)) {b i:Nat} {cs:List Value} {e:TypeId} {fz:Nat×Nat} (hb:c b=some (.cells cs.toArray e fz)) {vs:List Value} (hl:i+vs.length<=cs.length):
 On (h.wrs ⟨b,i,none⟩ 0 vs) (c.upd b (.cells (ZFD cs i vs).toArray e fz)::l):=by
 rw [ZTP vs h i 0 cs (o.2 c (by simp) _ _ hb) (by omega),Nat.add_zero];exact o.upd hb _
theorem ZZ {h:Hp} {l:List Hp} {b:Nat} {vs:List Value} {e:TypeId} (o:On h (ob b vs e::l)) {cd:Cdc} {i:Nat} {x:cd.T} {K:Hp->Prop} {vs':List Value} (hm:cd.mem=true)
 (hv:ZFD vs i (cd.enc x).cells.toList=vs') (hl:i+cd.n<=vs.length) (h2:∀ h',On h' (ob b vs' e::l)->K h'):ZV cd ⟨b,i,none⟩ x h K:=by
 have hn:=(ZAh hm x).1;refine ⟨Hp.sub_may (o.2 _ (by simp)) (ZBK (ZJR b vs e) hl (by omega)),h2 _ ?_⟩;have:=o.wrs (ZJR b vs e) (i:=i) (vs:=(cd.enc x).cells.toList) (by simpa [hn] using hl);rw [hv] at this;unfold ob at this ⊢;rw [ZH3] at this;exact this
theorem ZH {h:Hp} {l:List Hp} (o:On h l) {vs:List Value} {e:TypeId} {K:Nat->Hp->Prop} (h2:∀ b h',On h' (ob b vs e::l)->K b h'):ZM (.cells vs.toArray e (0,0)) h K:=
 λb hb=>h2 b _ (o.new hb _)
def Row (cd:Cdc) (g:Hp) (s:Sl) (xs:List cd.T):Prop:=
 s.len=xs.length/\match s.a with
  | none=>xs=[]
  | some a=>g.rds a (ZG cd xs)
def Own (cd:Cdc) (c:Hp) (s:Sl) (xs:List cd.T):Prop:=
 s.len=xs.length∧match s.a with
  | none=>s.cap=0/\xs=[]
  | some a=>a.spot=none∧∃ pre rest ZBo e fz,c a.block=some (.cells (pre++(ZG cd xs++(rest++ZBo))).toArray e fz)∧pre.length=a.off∧
     xs.length*cd.n+rest.length=s.cap*cd.n/\∀ k,a.off<=k->k<a.off+s.cap*cd.n->¬(fz.1<=k/\k<fz.2)
variable {cd:Cdc} {g h c:Hp} {s t:Sl} {xs ys:List cd.T} {l:List Hp}
theorem Row.sub (r:Row cd g s xs) (hs:g.sub h):Row cd h s xs:=by
 refine ⟨r.1,?_⟩;have:=r.2;split at this
 .exact this
 .exact Hp.sub_rds hs this
theorem Row.nil (g:Hp):Row cd g ⟨none,0,0⟩ []:=⟨rfl,rfl⟩
theorem Own.nil (g:Hp):Own cd g ⟨none,0,0⟩ []:=⟨rfl,rfl,rfl⟩
theorem ZKp {c:Hp} {b i:Nat} {cs:List Value} {e:TypeId} {fz:Nat×Nat} (hb:c b=some (.cells cs.toArray e fz)) {vs:List Value} (hv:(cs.drop i).take vs.length=vs):c.rds ⟨b,i,none⟩ vs:=by
 intro j v hj;rw [ZCY];have hlt:j<vs.length:=by
  rcases Nat.lt_or_ge j vs.length with h|h
  .exact h
  .rw [List.getElem?_eq_none h] at hj; cases hj
 rw [<-hv,List.getElem?_take_of_lt hlt,List.getElem?_drop] at hj;simp [Hp.cell?,hb,hj]
theorem ZU6 {a:Addr} (ha:a.spot=none):a=⟨a.block,a.off,none⟩:=by obtain ⟨b,i,s⟩:=a; cases ha; rfl
theorem Own.row (r:Own cd g s xs):Row cd g s xs:=by
 refine ⟨r.1,?_⟩;have:=r.2;split at this
 .exact this.2
 .obtain ⟨h1,pre,rest,ZBo,e,fz,hb,h2,h3,_⟩:=this;rename_i a ha;rw [ZU6 h1];refine ZKp hb ?_;rw [<-h2,List.drop_append_of_le_length (Nat.le_refl _),List.drop_length,List.nil_append,List.take_append_of_le_length (Nat.le_refl _),List.take_length]
theorem ZAx (cd:Cdc) (x:cd.T) (xs:List cd.T):ZG cd (x::xs)=(cd.enc x).cells.toList++ZG cd xs:=rfl
theorem Zp (cd:Cdc) (xs ys:List cd.T):ZG cd (xs++ys)=ZG cd xs++ZG cd ys:=by simp [ZG]
theorem ZFA (hm:cd.mem=true):∀ (xs:List cd.T) (i:Nat) (x:cd.T),xs[i]?=some x→((ZG cd xs).drop (i*cd.n)).take cd.n=(cd.enc x).cells.toList:=by
 intro xs;induction xs with
 | nil=>intro i x h; cases h
 | cons y xs ih=>
   intro i x h;have hy:((cd.enc y).cells.toList).length=cd.n:=by simpa using (ZAh hm y).1
   cases i with
   | zero=>
     simp only [List.getElem?_cons_zero,Option.some.injEq] at h;subst h;rw [Nat.zero_mul,List.drop_zero,ZAx,List.take_append_of_le_length (by omega),<-hy,List.take_length]
   | succ i=>
     simp only [List.getElem?_cons_succ] at h;rw [ZAx,Nat.add_mul,Nat.one_mul,Nat.add_comm,<-List.drop_drop,<-hy,List.drop_append_of_le_length (Nat.le_refl _),List.drop_length,List.nil_append,hy];exact ih i x h
theorem Hp.rds_add {g:Hp} {a:Addr} {cs:List Value} (r:g.rds a cs) (k:Nat) {vs:List Value} (hv:(cs.drop k).take vs.length=vs):g.rds (a.add k) vs:=by
 intro j v hj;have hlt:j<vs.length:=by
  rcases Nat.lt_or_ge j vs.length with h|h
  .exact h
  .rw [List.getElem?_eq_none h] at hj; cases hj
 rw [<-hv,List.getElem?_take_of_lt hlt,List.getElem?_drop] at hj;have:=r (k+j) v hj;rw [show (a.add k).add j=a.add (k+j) by
  obtain ⟨b,i,sp⟩:=a;unfold Addr.add;by_cases h1:k=0<;>by_cases h2:j=0<;>simp [h1,h2,Nat.add_assoc]]
 exact this
theorem ZL (r:Row cd g s xs) {i:Int} (h0:0<=i) (h1:i<xs.length) {K:Addr->Prop} (h2:∀ a,s.a=some a->K a):Zl s.a s.len i K:=by
 refine ⟨h0,by rw [r.1]; exact h1,?_⟩;cases ha:s.a with
 | none=>have:=r.2; rw [ha] at this; subst this; simp at h1; omega
 | some a=>exact h2 a ha
theorem ZO (r:Row cd g s xs) (hs:g.sub h) (hm:cd.mem=true) {a:Addr} (ha:s.a=some a) {i:Nat} {x:cd.T} (hx:xs[i]?=some x) {m:Nat} (hn:i*cd.n=m) {K:cd.T->Prop} (h2:K x):ZC cd (a.add m) h K:=by
 refine ⟨x,?_,h2⟩;have hr:=r.2;rw [ha] at hr;subst hn;have hl:((cd.enc x).cells.toList).length=cd.n:=by simpa using (ZAh hm x).1
 exact Hp.sub_rds hs (Hp.rds_add hr _ (by rw [hl]; exact ZFA hm xs i x hx))
theorem ZCu (r:Row cd g s xs) (hs:g.sub h) {K:List cd.T->Prop} (h2:K xs):ZCM cd s.a s.len h K:=by
 have hr:=r.2;unfold ZCM;split at hr
 .rename_i ha; rw [ha]; subst hr; exact ⟨r.1,h2⟩
 .rename_i a ha; rw [ha]; exact ⟨xs,r.1.symm,Hp.sub_rds hs hr,h2⟩
theorem ZKM (xs:List Int):ZDs xs=ZG (cI .u8) xs:=by
 induction xs with
 | nil=>rfl
 | cons x xs ih=>
   show Value.int .u8 x::ZDs xs=Value.int .u8 x::ZG (cI .u8) xs;rw [ih]
theorem ZTD {xs:List Int} (r:Row (cI .u8) g s xs) (hs:g.sub h) {K:ByteArray->Prop} (h2:K (ZI9 xs)):ZX8 s.a s.len h K:=by
 have hr:=r.2;unfold ZX8;split at hr
 .rename_i ha; rw [ha];have:xs=[]:=hr;subst this; exact h2
 .rename_i a ha; rw [ha]; exact ⟨xs,r.1.symm,by rw [ZKM]; exact Hp.sub_rds hs hr,h2⟩
theorem Row.cut (r:Row cd g s xs) {k m:Nat} (hkm:k≤m) (hml:m≤xs.length) {cap':Nat} (hc:xs.length≤s.cap) (hm:cd.mem=true) {z:Nat} (hz:z=cd.n):
 Row cd g ⟨Zm s.a k s.cap z,m-k,cap'⟩ ((xs.drop k).take (m-k)):=by
 subst hz;refine ⟨by simp; omega,?_⟩;have hr:=r.2;show match Zm s.a k s.cap cd.n with
  | none=>_
  | some a=>_
 cases ha:s.a with
 | none=>
   rw [ha] at hr;have:xs=[]:=hr;subst this;have:Zm none k s.cap cd.n=none:=by unfold Zm; split<;>rfl
   rw [this];simp
 | some a=>
   rw [ha] at hr;have key:g.rds (a.add (k*cd.n)) (ZG cd ((xs.drop k).take (m-k))):=by
    refine Hp.rds_add hr _ ?_;have e:ZG cd xs=ZG cd (xs.take k)++(ZG cd ((xs.drop k).take (m-k))++ZG cd ((xs.drop k).drop (m-k))):=by rw [<-Zp,<-Zp,List.take_append_drop,List.take_append_drop]
    have hlen:(ZG cd (xs.take k)).length=k*cd.n:=by rw [Zf hm,List.length_take,Nat.min_eq_left (by omega)]
    rw [e,<-hlen,List.drop_append_of_le_length (Nat.le_refl _),List.drop_length,List.nil_append,List.take_append_of_le_length (Nat.le_refl _),List.take_length]
   unfold Zm;by_cases hk:s.cap=k
   .rw [if_pos hk];have:m-k=0:=by omega
    rw [this];intro i v hv;simp [ZG] at hv
   .rw [if_neg hk];exact key
theorem ZBN {b:Nat} {e:TypeId} {n cap:Nat} {vs rest:List Value} (hv:vs=ZG cd xs++rest) (hn:n=xs.length) (hc:xs.length*cd.n+rest.length=cap*cd.n):Own cd (ob b vs e) ⟨some ⟨b,0,none⟩,n,cap⟩ xs:=by
 refine ⟨hn,rfl,[],rest,[],e,(0,0),?_,rfl,hc,?_⟩
 .simp [ZJR,hv]
 .intro k h1 h2; simp
theorem Ze {b:Nat} {e:TypeId} {n cap:Nat} {vs:List Value} (hv:vs=ZG cd xs) (hn:n=xs.length):Row cd (ob b vs e) ⟨some ⟨b,0,none⟩,n,cap⟩ xs:=by refine ⟨hn,?_⟩;subst hv;exact ZKp (ZJR b _ e) (by simp)
theorem ZU {e:TypeId} {bytes:Nat} (o:On h (c::l)) (hm:cd.mem=true) (w:Own cd c s xs) (hn:0<cd.n) (hy:Row cd g t ys) (hg:g.sub h) (room:(xs.length+ys.length)*bytes≤ZAR)
 {K:Option Addr->Nat->Nat->Hp->Prop} (hK:∀ (c':Hp) (p:Option Addr) (n m:Nat) (h':Hp),On h' (c'::l)->Own cd c' ⟨p,n,m⟩ (xs++ys)->K p n m h'):
 ZX cd e bytes s.a s.len s.cap t.a t.len h K:=by
 unfold ZX;refine ZCu hy hg ?_;have hx1:=w.1;have hy1:=hy.1;refine ⟨λhle=>?_,λhlt=>?_⟩
 ·have hr:=w.2;cases ha:s.a with
  | none=>
    rw [ha] at hr;obtain ⟨h1,h2⟩:=hr;dsimp only;have:ys=[]:=by
     cases ys with
     | nil=>rfl
     | cons y ys=>rw [h2] at hx1; simp at hx1 hy1; omega
    subst this;refine hK c none _ _ h o ?_;rw [List.append_nil];exact ⟨by rw [hx1,hy1]; simp,h1,h2⟩
  | some a=>
    rw [ha] at hr;obtain ⟨hsp,pre,rest,ZBo,e',fz,hb,hpre,hroom,hfz⟩:=hr;dsimp only;have hyl:(ZG cd ys).length=ys.length*cd.n:=Zf hm ys;have hxl:(ZG cd xs).length=xs.length*cd.n:=Zf hm xs;have hfit:ys.length*cd.n<=rest.length:=by have:(xs.length+ys.length)*cd.n<=s.cap*cd.n:=Nat.mul_le_mul_right _ (by omega);rw [Nat.add_mul] at this;omega
    have hmul:(s.len+t.len)*cd.n<=s.cap*cd.n:=Nat.mul_le_mul_right _ hle;have hadd:a.add (s.len*cd.n)=⟨a.block,a.off+s.len*cd.n,none⟩:=ZBH hsp _;have hlen:a.off+s.len*cd.n+t.len*cd.n<=(pre++(ZG cd xs++(rest++ZBo))).length:=by simp only [List.length_append,hpre,hxl,hx1,hy1]; omega
    rw [hadd];refine ⟨Hp.sub_may (o.2 c (by simp)) (ZBK hb hlen λk h1 h2=>hfz k (by omega) ?_),?_⟩
    .rw [Nat.add_mul] at hmul; omega
    ·have o':=o.wrs hb (i:=a.off+s.len*cd.n) (vs:=ZG cd ys) (by rw [hyl,←hy1]; exact hlen);refine hK _ (some a) _ _ _ o' ?_
     have hset:ZFD (pre++(ZG cd xs++(rest++ZBo))) (a.off+s.len*cd.n) (ZG cd ys)=pre++(ZG cd (xs++ys)++(rest.drop (ys.length*cd.n)++ZBo)):=by
         have hp:(pre++ZG cd xs).length=a.off+s.len*cd.n:=by simp [hpre,hxl,hx1]
         unfold ZFD;rw [<-List.append_assoc pre,<-hp,List.take_append_of_le_length (Nat.le_refl _),List.take_length,<-List.drop_drop,List.drop_append_of_le_length (Nat.le_refl _),List.drop_length,List.nil_append,hyl,
          List.drop_append_of_le_length hfit,Zp]
         simp [List.append_assoc]
     rw [hset];refine ⟨by rw [hx1,hy1]; simp,hsp,pre,rest.drop (ys.length*cd.n),ZBo,e',fz,by simp [Hp.upd],hpre,?_,hfz⟩;simp only [List.length_append,List.length_drop,Nat.add_mul];omega
 .refine ⟨by rw [hx1,hy1]; exact room,ZCu w.row (o.2 c (by simp)) ?_⟩;intro nc pad hnc hpad b hbn;have o':=o.tail.new hbn (.cells (ZG cd xs++(ZG cd ys++pad)).toArray e (0,0));refine hK _ (some ⟨b,0,none⟩) _ _ _ o' ?_;refine ZBN (rest:=pad) (by rw [Zp,List.append_assoc]) (by rw [hx1,hy1]; simp) ?_;rw [hpad,<-Nat.add_mul];congr 1;rw [hx1,hy1] at hnc ⊢;simp; omega
open Go.RowKit Go.ChangeShapes Go.WideShapes
def Opn (P:Program) (W:World) (t:TypeId) (cs:List Value):Prop:=
 ∃ (H:Type) (enc:TypeId×Value->H) (base:Nat) (spare:Nat->Bool) (held:Bool) (fuel:Nat) (y:DataW H×List MemPlace),DataW.trod enc P W base spare held fuel t cs=some y/\∀ n∈y.1.weights P t,n<=reachBytes
def ZVl (P:Program) (rec:TypeId→Option (List (Lk×TypeId))):List Field→Nat→Option (List (Lk×TypeId))
 | [],_=>some []
 | f::fs,off=>bif Nat.beq f.offset off then
    match rec f.type with
    | some l=>bif Nat.beq l.length (P.cellsOf f.type) then
       match ZVl P rec fs (off+l.length) with
       | some r=>some (l++r)
       | none=>none
      else none
    | none=>none
   else none
def ZWe (P:Program):Nat→TypeId→Option (List (Lk×TypeId))
 | 0,_=>none
 | d+1,t=>match P.underlying t with
   | some (.int k)=>some [(.i k,t)]
   | some .bool=>some [(.b,t)]
   | some .string=>some [(.s,t)]
   | some (.slice _)=>some [(.sl,t)]
   | some (.struct fs)=>match ZVl P (ZWe P d) fs.toList 0 with
     | some l=>bif Nat.beq l.length (P.cellsOf t) then some l else none
     | none=>none
   | some (.array n e)=>match ZWe P d e with
     | some l=>bif Nat.beq l.length (P.cellsOf e)&&Nat.beq (n*l.length) (P.cellsOf t) then some (List.replicate n l).flatten else none
     | none=>none
   | _=>none
def ZNy (P:Program) (W:World):Lk->TypeId->Value->Prop
 | .i k,_,v=>∃ n,v=.int k n/\(Lit.int k n).wf=true
 | .b,_,v=>∃ b,v=.bool b
 | .s,_,v=>∃ s,v=.string s/\s.size<=maxLen
 | .sl,t,v=>(∃ a l c,v=.slice a l c)/\Opn P W t [v]
 | _,_,_=>False
def ZSF (P:Program) (W:World):(lk:Lk)->TypeId->lk.T->Prop
 | .i k,_,n=>(Lit.int k n).wf=true
 | .s,_,s=>s.size<=maxLen
 | .sl,t,s=>Opn P W t [.slice s.a s.len s.cap]
 | _,_,_=>True
def okL (P:Program) (W:World):(ls:List (Lk×TypeId))->LT (ls.map (·.1))->Prop
 | [],_=>True
 | [a],x=>ZSF P W a.1 a.2 x
 | a::b::l,x=>ZSF P W a.1 a.2 x.1/\okL P W (b::l) x.2
theorem ZVG {P:Program} {W:World}:∀ (lk:Lk) (t:TypeId) (v:Value),ZNy P W lk t v->∃ x:lk.T,v=lk.enc x/\ZSF P W lk t x:=by
 intro lk t v h;cases lk with
 | i k=>obtain ⟨n,rfl,h⟩:=h; exact ⟨n,rfl,h⟩
 | b=>obtain ⟨b,rfl⟩:=h; exact ⟨b,rfl,trivial⟩
 | s=>obtain ⟨s,rfl,h⟩:=h; exact ⟨s,rfl,h⟩
 | p=>exact h.elim
 | sl=>obtain ⟨⟨a,l,c,rfl⟩,h⟩:=h; exact ⟨⟨a,l,c⟩,rfl,h⟩
 | c=>exact h.elim
theorem ZOf {P:Program} {W:World}:∀ (ls:List (Lk×TypeId)) (cs:List Value),cs.length=ls.length→(∀ (i:Nat) (lt:Lk×TypeId) (v:Value),ls[i]?=some lt→cs[i]?=some v→ZNy P W lt.1 lt.2 v)→
 ∃ x:LT (ls.map (·.1)),cs=ZJz (ls.map (·.1)) x/\okL P W ls x:=by
 intro ls;induction ls with
 | nil=>intro cs hl _; rw [List.length_nil,List.length_eq_zero_iff] at hl; subst hl; exact ⟨(),rfl,trivial⟩
 | cons a ls ih=>
   intro cs hl hk;cases cs with
   | nil=>simp at hl
   | cons v cs=>
     obtain ⟨x,hx,ok⟩:=ZVG a.1 a.2 v (hk 0 a v rfl rfl);obtain ⟨y,hy,oy⟩:=ih cs (by simpa using hl) λi lt u h1 h2=>hk (i+1) lt u (by simpa using h1) (by simpa using h2);cases ls with
     | nil=>
       refine ⟨x,?_,ok⟩;have:cs=[]:=by simpa using hl
       subst this;rw [hx]; rfl
     | cons b ls=>exact ⟨(x,y),by rw [hx,hy]; rfl,ok,oy⟩
section
variable {H:Type} {enc:TypeId×Value->H} {P:Program} {W:World} {base:Nat} {spare:Nat->Bool} {held:Bool}
theorem ZCk {e:TypeId}:∀ {ds:List (DataW H)} {d:DataW H},d∈ds→∀ n∈d.weights P e,n∈DataW.weightsAll P e ds
 | d0::ds,d,hd,n,hn=>by
   simp only [DataW.weightsAll,List.mem_append];rcases List.mem_cons.1 hd with rfl|hd
   .exact .inl hn
   .exact .inr (ZCk hd n hn)
theorem ZIE {e t:TypeId} {fuel:Nat} {cs:List Value} {y:DataW H×List MemPlace} (ht:P.underlying t=some (.slice e)) (h:DataW.trod enc P W base spare held fuel t cs=some y):
 ∃ a l c,cs=[.slice a l c]:=by
 rcases DataW.trod_slice ht h with ⟨h0,_⟩|⟨a,len,cap,_,_,_,_,rfl,_⟩
 .exact ⟨_,_,_,h0⟩
 .exact ⟨_,_,_,rfl⟩
theorem ZL6:∀ (d:Nat) (t:TypeId) (ls:List (Lk×TypeId)) (fuel:Nat) (cs:List Value) (y:DataW H×List MemPlace),ZWe P d t=some ls→DataW.trod enc P W base spare held fuel t cs=some y→(∀ n∈y.1.weights P t,n≤reachBytes)→
 cs.length=ls.length/\∀ (i:Nat) (lt:Lk×TypeId) (v:Value),ls[i]?=some lt->cs[i]?=some v->ZNy P W lt.1 lt.2 v:=by
 intro d;induction d with
 | zero=>intro t ls fuel cs y h; cases h
 | succ d ih=>
   intro t ls fuel cs y hf h hwt;unfold ZWe at hf;split at hf
   .rename_i k hu;cases hf;obtain ⟨n,rfl,_,hw⟩:=DataW.trod_int hu h;refine ⟨rfl,λi lt v h1 h2=>?_⟩;cases i with
    | zero=>cases h1; cases h2; exact ⟨n,rfl,hw⟩
    | succ i=>cases h1
   .rename_i hu;cases hf;obtain ⟨b,rfl,_⟩:=DataW.trod_bool hu h;refine ⟨rfl,λi lt v h1 h2=>?_⟩;cases i with
    | zero=>cases h1; cases h2; exact ⟨b,rfl⟩
    | succ i=>cases h1
   .rename_i hu;cases hf;obtain ⟨s,rfl,_,hs⟩:=DataW.trod_string hu h;refine ⟨rfl,λi lt v h1 h2=>?_⟩;cases i with
    | zero=>cases h1; cases h2; exact ⟨s,rfl,hs⟩
    | succ i=>cases h1
   .rename_i e hu;cases hf;obtain ⟨a,l,c,rfl⟩:=ZIE hu h;refine ⟨rfl,λi lt v h1 h2=>?_⟩;cases i with
    | zero=>cases h1; cases h2; exact ⟨⟨a,l,c,rfl⟩,⟨H,enc,base,spare,held,fuel,y,h,hwt⟩⟩
    | succ i=>cases h1
   ·rename_i fs hu;split at hf
    ·rename_i l hl;cases hb:Nat.beq l.length (P.cellsOf t) with
     | false=>rw [hb] at hf; cases hf
     | true=>
       rw [hb] at hf;cases hf;obtain ⟨xs,n,_,hy,hlen,hxl,hfield⟩:=DataW.trod_struct hu h;subst hy;refine ⟨by rw [hlen]; exact (Nat.eq_of_beq_eq_true hb).symm,?_⟩;have hall:∀ f∈fs.toList,∃ z,DataW.trod enc P W base spare held n f.type ((cs.drop f.offset).take (P.cellsOf f.type))=some z/\∀ m∈z.1.weights P f.type,m<=reachBytes:=by
         intro f hf;obtain ⟨i,hi⟩:=List.getElem?_of_mem hf;have hi':fs[i]?=some f:=by simpa using hi
         have hlt:i<xs.length:=by rw [hxl]; exact (Array.getElem?_eq_some_iff.1 hi').1
         refine ⟨xs[i],by rw [hfield i f hi']; simp [hlt],λm hm=>hwt m ?_⟩;simp only [DataW.weights,hu];exact DataW.weights_mem_each (j:=i) (t:=f.type) (d:=xs[i].1) (by simp [hi]) (by simp [hlt]) m hm
       have key:∀ (fl:List Field) (off:Nat) (r:List (Lk×TypeId)),ZVl P (ZWe P d) fl off=some r→(∀ f∈fl,∃ z,DataW.trod enc P W base spare held n f.type ((cs.drop f.offset).take (P.cellsOf f.type))=some z∧∀ m∈z.1.weights P f.type,m≤reachBytes)→
          ∀ (i:Nat) (lt:Lk×TypeId) (v:Value),r[i]?=some lt->cs[off+i]?=some v->ZNy P W lt.1 lt.2 v:=by
         intro fl
         induction fl with
         | nil=>intro off r hr _ i lt v h1; cases hr; cases h1
         | cons f fl ihf=>
           intro off r hr hz i lt v h1 h2;unfold ZVl at hr;cases hb1:Nat.beq f.offset off with
           | false=>rw [hb1] at hr; cases hr
           | true=>
             rw [hb1] at hr;have e1:=Nat.eq_of_beq_eq_true hb1;simp only [cond_true] at hr;split at hr
             ·rename_i l' hl';cases hb2:Nat.beq l'.length (P.cellsOf f.type) with
              | false=>rw [hb2] at hr; cases hr
              | true=>
                rw [hb2] at hr;have e2:=Nat.eq_of_beq_eq_true hb2;simp only [cond_true] at hr;split at hr
                .rename_i r' hr';cases hr;obtain ⟨z,hz0,hzw⟩:=hz f (by simp);obtain ⟨_,hleaf⟩:=ih f.type l' n _ z hl' hz0 hzw;by_cases hi:i<l'.length
                 .rw [List.getElem?_append_left hi] at h1;refine hleaf i lt v h1 ?_;rw [List.getElem?_take_of_lt (by omega),List.getElem?_drop,e1];exact h2
                 .rw [List.getElem?_append_right (by omega)] at h1;exact ihf _ _ hr' (λg hg=>hz g (by simp [hg])) (i-l'.length) lt v h1 (by rw [show off+l'.length+(i-l'.length)=off+i by omega]; exact h2)
                .cases hr
             .cases hr
       intro i lt v h1 h2;exact key _ 0 _ hl hall i lt v h1 (by rw [Nat.zero_add]; exact h2)
    .cases hf
   ·rename_i n e hu;split at hf
    ·rename_i l hl;cases hb:(Nat.beq l.length (P.cellsOf e)&&Nat.beq (n*l.length) (P.cellsOf t)) with
     | false=>rw [hb] at hf; cases hf
     | true=>
       rw [hb] at hf;cases hf;rw [Bool.and_eq_true] at hb;have e1:=Nat.eq_of_beq_eq_true hb.1;have e2:=Nat.eq_of_beq_eq_true hb.2;obtain ⟨xs,m,_,hy,hlen,hxl,hget⟩:=DataW.trod_array hu h;subst hy
       have hall:∀ i,i<n→∃ z,DataW.trod enc P W base spare held m e ((cs.drop (i*P.cellsOf e)).take (P.cellsOf e))=some z∧∀ k∈z.1.weights P e,k≤reachBytes:=fun i hi=>
         ⟨xs[i],by rw [hget i hi]; exact List.getElem?_eq_getElem (by omega),λk hk=>hwt k (by
           simp only [DataW.weights,hu];exact ZCk (List.mem_map.2 ⟨xs[i],List.getElem_mem _,rfl⟩) k hk)⟩
       have flen:∀ n:Nat,((List.replicate n l).flatten).length=n*l.length:=by intro n; simp
       refine ⟨by rw [hlen,flen,e2],?_⟩;intro i lt v h1 h2;have hi:i<n*l.length:=by
         rcases Nat.lt_or_ge i (n*l.length) with h|h
         .exact h
         .rw [List.getElem?_eq_none (by rw [flen]; exact h)] at h1; cases h1
       have hpos:0<l.length:=Nat.pos_of_ne_zero (by intro h0; rw [h0] at hi; omega)
       have get:∀ (n i:Nat),i<n*l.length→((List.replicate n l).flatten)[i]?=l[i % l.length]?:=by
         intro n;induction n with
         | zero=>intro i hi; omega
         | succ n ihn=>
           intro i hi;show (l++(List.replicate n l).flatten)[i]?=_;rw [Nat.add_mul,Nat.one_mul] at hi;by_cases h:i<l.length
           .rw [List.getElem?_append_left h,Nat.mod_eq_of_lt h]
           .rw [List.getElem?_append_right (by omega),ihn (i-l.length) (by omega),<-Nat.mod_eq_sub_mod (by omega)]
       rw [get n i hi] at h1;obtain ⟨z,hz,hzw⟩:=hall (i / l.length) ((Nat.div_lt_iff_lt_mul hpos).2 hi);obtain ⟨_,hleaf⟩:=ih e l m _ z hl hz hzw;refine hleaf (i % l.length) lt v h1 ?_;rw [<-e1,List.getElem?_take_of_lt (Nat.mod_lt _ hpos),List.getElem?_drop,Nat.mul_comm,Nat.div_add_mod];exact h2
    .cases hf
   .cases hf
end
def ZVx (W:World):Hp:=λb=>W.heap[b]?
theorem ZXq (W:World):(ZVx W).le W:=λ_ _ h=>h
theorem ZRk {P:Program} {W:World} {d:Nat} {t:TypeId} {cs:List Value} {ls:List (Lk×TypeId)} (h:Opn P W t cs) (hf:ZWe P d t=some ls):∃ x:LT (ls.map (·.1)),cs=ZJz (ls.map (·.1)) x/\okL P W ls x:=by obtain ⟨H,enc,base,spare,held,fuel,y,h,hw⟩:=h;obtain ⟨h1,h2⟩:=ZL6 d t ls fuel cs y hf h hw;exact ZOf ls cs h1 h2
theorem ZTf {P:Program} {W:World} {d:Nat} {t e:TypeId} {ls:List (Lk×TypeId)} {cd:Cdc} (mk:LT (ls.map (·.1))→cd.T) (hmk:∀ x,(cd.enc (mk x)).cells.toList=ZJz (ls.map (·.1)) x)
 {a:Option Addr} {len cap:Nat} (h:Opn P W t [.slice a len cap]) (hu:P.underlying t=some (.slice e)) (hf:ZWe P d e=some ls) (hc:P.cellsOf e=ls.length):
 len<=cap/\cap<=maxLen/\len*P.bytesOf e<=reachBytes/\∃ xs:List cd.T,Row cd (ZVx W) ⟨a,len,cap⟩ xs/\∀ x∈xs,∃ y,x=mk y/\okL P W ls y:=by
 obtain ⟨H,enc,base,spare,held,fuel,y,h,hw⟩:=h;rcases DataW.trod_slice hu h with ⟨h0,_⟩|⟨ad,len',cap',elems,rest,n,_,h0,hy,hb,hl,hm,hlen,hel,_,_⟩
 .cases h0;exact ⟨Nat.le_refl _,Nat.zero_le _,by omega,[],⟨rfl,rfl⟩,λx hx=>by cases hx⟩
 ·cases h0;subst hy;have hw':(elems.length+rest.length)*P.bytesOf e≤reachBytes:=by have:=hw ((elems.length+rest.length)*P.bytesOf e) (by simp [DataW.weights,hu]);exact this
  refine ⟨hl,hm,Nat.le_trans (Nat.mul_le_mul_right _ (by omega)) hw',?_⟩;have each:∀ i,i<len->∃ x:LT (ls.map (·.1)),okL P W ls x/\∀ j v,(ZJz (ls.map (·.1)) x)[j]?=some v->W.cell? (ad.add (i*ls.length+j))=some v:=by
   intro i hi;have hi':i<elems.length:=by omega
   have:=hel i hi;rw [List.getElem?_eq_getElem hi',Option.bind_eq_some_iff] at this;obtain ⟨cs,hcs,htr⟩:=this;obtain ⟨x,hx,ok⟩:=ZRk (P:=P) (W:=W) ⟨H,enc,base,spare,held,n,_,htr,λk hk=>hw k (by
    simp only [DataW.weights,hu,List.mem_cons,List.mem_append];exact .inr (.inl (ZCk (List.mem_map.2 ⟨elems[i],List.getElem_mem _,rfl⟩) k hk)))⟩ hf
   refine ⟨x,ok,λj v hj=>?_⟩;obtain ⟨_,hl1,hl2⟩:=World.cells?_some hcs;rw [hc] at hl1 hl2;rw [<-hx] at hj;have hjl:j<ls.length:=by
    rcases Nat.lt_or_ge j ls.length with h|h
    .exact h
    .rw [List.getElem?_eq_none (by omega)] at hj; cases hj
   have:=hl2 j hjl;rw [hj] at this;rw [<-this];congr 1;obtain ⟨b,o,sp⟩:=ad;unfold Addr.add;by_cases h1:i*ls.length=0<;>by_cases h2:j=0<;>simp [h1,h2,Nat.add_assoc]
  have build:∀ m,m≤len→∃ xs:List (LT (ls.map (·.1))),xs.length=m∧(∀ x∈xs,okL P W ls x)∧∀ i v,(xs.flatMap (ZJz (ls.map (·.1))))[i]?=some v→W.cell? (ad.add i)=some v:=by
   intro m;induction m with
   | zero=>exact λ_=>⟨[],rfl,(λx hx=>absurd hx List.not_mem_nil),(λi v hv=>by cases hv)⟩
   | succ m ihm=>
     intro hm';obtain ⟨xs,h1,h2,h3⟩:=ihm (by omega);obtain ⟨x,ok,hx⟩:=each m (by omega);refine ⟨xs++[x],by simp [h1],λz hz=>?_,λi v hv=>?_⟩
     .rcases List.mem_append.1 hz with hz|hz
      .exact h2 z hz
      .rw [List.mem_singleton] at hz; subst hz; exact ok
     ·have hxl:(xs.flatMap (ZJz (ls.map (·.1)))).length=m*ls.length:=by
          rw [<-h1];clear h1 h2 h3 hv;induction xs with
          | nil=>simp
          | cons z xs ihx=>simp only [List.flatMap_cons,List.length_append,ihx,ZNM,List.length_map,List.length_cons,Nat.add_mul,Nat.one_mul]; omega
      rw [List.flatMap_append,List.flatMap_cons,List.flatMap_nil,List.append_nil] at hv;by_cases hi:i<m*ls.length
      .rw [List.getElem?_append_left (by omega)] at hv; exact h3 i v hv
      .rw [List.getElem?_append_right (by omega),hxl] at hv;have:=hx (i-m*ls.length) v hv;rw [show m*ls.length+(i-m*ls.length)=i by omega] at this;exact this
  obtain ⟨xs,h1,h2,h3⟩:=build len (Nat.le_refl _);refine ⟨xs.map mk,⟨by simp [h1],?_⟩,λx hx=>?_⟩
  .show (ZVx W).rds ad (ZG cd (xs.map mk));have:ZG cd (xs.map mk)=xs.flatMap (ZJz (ls.map (·.1))):=by
    clear h1 h2 h3;induction xs with
    | nil=>rfl
    | cons z xs ihx=>rw [List.map_cons,ZAx,ihx,hmk]; rfl
   rw [this];exact h3
  .obtain ⟨y,hy,rfl⟩:=List.mem_map.1 hx;exact ⟨y,rfl,h2 y hy⟩
theorem Zh {b:Bool} {A B:Prop} (hb:b=true) (h:A):ZB b A B:=by subst hb; exact h
theorem ZT {b:Bool} {A B:Prop} (hb:b=false) (h:B):ZB b A B:=by subst hb; exact h
theorem ZD {b:Bool} {A B:Prop} (h1:b=true->A) (h2:b=false->B):ZB b A B:=by
 cases b
 .exact h2 rfl
 .exact h1 rfl
theorem ZJ {p:Prop} [Decidable p] {A B:Prop} (h1:p->A) (h2:¬p->B):ZB (decide p) A B:=by
 by_cases h:p
 .rw [decide_eq_true h]; exact h1 h
 .rw [decide_eq_false h]; exact h2 h
theorem ZN {T:Type} {J0:T->Hp->Prop} {B:(T->Hp->Prop)->Prop} (S:T->Hp->Prop) (h1:∀ x h,S x h->J0 x h) (h2:∀ J:T->Hp->Prop,(∀ x h,S x h->J x h)->B J):ZY J0 B:=h2 J0 h1
theorem Zb {T:Type} {x0:T} {h0:Hp} {B:(T->Hp->Prop)->T->Hp->Prop} (I:T->Hp->Prop) (μ:T->Nat) (hi:I x0 h0)
 (step:∀ (J:T->Hp->Prop) (x:T) (h:Hp),(∀ x' h',I x' h'->μ x'<μ x->J x' h')->I x h->B J x h):Zj x0 h0 B:=
 ⟨I,λx _=>μ x,hi,λx h hI=>step _ x h (λ_ _ a b=>⟨a,b⟩) hI⟩
theorem w64 {n:Int} (h1:-9223372036854775808<=n) (h2:n<=9223372036854775807):IntKind.i64.wrap n=n:=by rw [IntKind.wrap_i64]; omega
theorem ZAQ {n:Nat} (h:n<9223372036854775807):IntKind.i64.wrap ((n:Int)+1)=((n+1:Nat):Int):=by rw [w64 (by omega) (by omega)]; omega
theorem ZX9 {P:Program} {f:FuncId} {args:Array Value} {W:World} {R:Value->Prop} (s:ZHt P f args (ZVx W) λv h'=>R v/\(ZVx W).sub h'):
 Calls P f args W λe W'=>(∃ v,e=.returned v/\R v)/\RowKit.Below W.heap.size W W':=by
 refine (s W Hp.emp (ZXq W) (Hp.emp_le W) (λb=>.inr rfl)).mono ?_;rintro e W' ⟨v,h',rfl,⟨hR,hsub⟩,hle,_,_,sm⟩;have hb:∀ k,k<W.heap.size->W'.heap[k]?=W.heap[k]?:=by intro k hk;have h1:W.heap[k]?=some W.heap[k]:=Array.getElem?_eq_getElem hk;rw [h1];exact hle k _ (hsub k _ h1)
 refine ⟨⟨v,rfl,hR⟩,sm.os,sm.tape,sm.output,?_,hb⟩;rcases Nat.eq_zero_or_pos W.heap.size with h0|h0
 .omega
 .have:=hb (W.heap.size-1) (by omega);rw [Array.getElem?_eq_getElem (show W.heap.size-1<W.heap.size by omega)] at this;rcases Nat.lt_or_ge (W.heap.size-1) W'.heap.size with h|h
  .omega
  .rw [Array.getElem?_eq_none h] at this; cases this
def ZC1 {α β:Type} (R:α->β->Prop):List α->List β->Prop
 | [],[]=>True
 | a::l,b::m=>R a b/\ZC1 R l m
 | _,_=>False
theorem ZC1.len {α β:Type} {R:α->β->Prop}:∀ {l:List α} {m:List β},ZC1 R l m->l.length=m.length
 | [],[],_=>rfl
 | _::_,_::_,h=>by simp [ZC1.len h.2]
 | [],_::_,h=>h.elim
 | _::_,[],h=>h.elim
theorem ZC1.get {α β:Type} {R:α->β->Prop}:∀ {l:List α} {m:List β},ZC1 R l m->∀ (i:Nat) (a:α),l[i]?=some a->∃ b,m[i]?=some b/\R a b
 | [],[],_,i,a,h=>by cases h
 | x::l,y::m,hr,0,a,h=>by simp at h; subst h; exact ⟨y,rfl,hr.1⟩
 | x::l,y::m,hr,i+1,a,h=>ZC1.get hr.2 i a (by simpa using h)
 | [],_::_,h,_,_,_=>h.elim
 | _::_,[],h,_,_,_=>h.elim
theorem ZC1.mono {α β:Type} {R S:α->β->Prop} (hRS:∀ a b,R a b->S a b):∀ {l:List α} {m:List β},ZC1 R l m->ZC1 S l m
 | [],[],_=>trivial
 | _::_,_::_,h=>⟨hRS _ _ h.1,ZC1.mono hRS h.2⟩
 | [],_::_,h=>h.elim
 | _::_,[],h=>h.elim
theorem ZC1.app {α β:Type} {R:α->β->Prop}:∀ {l:List α} {m:List β} {l':List α} {m':List β},ZC1 R l m->ZC1 R l' m'->ZC1 R (l++l') (m++m')
 | [],[],_,_,_,h=>h
 | _::_,_::_,_,_,h,h'=>⟨h.1,ZC1.app h.2 h'⟩
 | [],_::_,_,_,h,_=>h.elim
 | _::_,[],_,_,h,_=>h.elim
def ZD3 (g:Hp):List Sl->List (List Int)->Prop:=ZC1 λs bs=>Row (cI .u8) g s bs
theorem ZD3.sub {g h:Hp} (hs:g.sub h) {l:List Sl} {m:List (List Int)} (r:ZD3 g l m):ZD3 h l m:=ZC1.mono (λ_ _ h=>Row.sub h hs) r
theorem Z7 {α β:Type} (f:α->β->α) (a:α) (l:List β) {i:Nat} {x:β} (hx:l[i]?=some x):(l.take (i+1)).foldl f a=f ((l.take i).foldl f a) x:=by
 have:l.take (i+1)=l.take i++[x]:=by rw [List.take_add_one,hx]; rfl
 rw [this,List.foldl_append]; rfl
variable {cd:Cdc} {g h c:Hp} {s t:Sl} {xs ys:List cd.T} {l:List Hp}
theorem On.emp {h:Hp} {l:List Hp} (o:On h l):On h (Hp.emp::l):=
 ⟨List.pairwise_cons.2 ⟨λ_ _ _=>.inl rfl,o.1⟩,λc hc=>by
   rcases List.mem_cons.1 hc with rfl|hc
   .intro b o h; cases h
   .exact o.2 c hc⟩
theorem ZGs (p q r vs:List Value) (hl:q.length=vs.length):ZFD (p++(q++r)) p.length vs=p++(vs++r):=by
 unfold ZFD;rw [List.take_append_of_le_length (Nat.le_refl _),List.take_length,<-List.drop_drop,List.drop_append_of_le_length (Nat.le_refl _),List.drop_length,List.nil_append,<-hl,
  List.drop_append_of_le_length (Nat.le_refl _),List.drop_length,List.nil_append]
theorem ZBy (o:On h (c::l)) (hm:cd.mem=true) (w:Own cd c s xs) {a:Addr} (ha:s.a=some a) {i:Nat} (hi:i<xs.length) {m:Nat} (hn:i*cd.n=m) {x:cd.T} {K:Hp→Prop}
 (hK:∀ c' h',On h' (c'::l)->Own cd c' s (xs.set i x)->K h'):ZV cd (a.add m) x h K:=by
 subst hn;have hr:=w.2;rw [ha] at hr;obtain ⟨hsp,pre,rest,ZBo,e,fz,hb,hpre,hroom,hfz⟩:=hr;have hx:=(ZAh hm x).1;have hxl:((cd.enc x).cells.toList).length=cd.n:=by simpa using hx
 have hol:((cd.enc xs[i]).cells.toList).length=cd.n:=by simpa using (ZAh hm xs[i]).1
 have hcl:(ZG cd xs).length=xs.length*cd.n:=Zf hm xs;have hsplit:ZG cd xs=ZG cd (xs.take i)++((cd.enc xs[i]).cells.toList++ZG cd (xs.drop (i+1))):=by rw [<-ZAx,<-Zp,<-List.drop_eq_getElem_cons hi,List.take_append_drop]
 have htl:(ZG cd (xs.take i)).length=i*cd.n:=by rw [Zf hm,List.length_take,Nat.min_eq_left (by omega)]
 have hmul:(i+1)*cd.n<=xs.length*cd.n:=Nat.mul_le_mul_right _ hi;rw [Nat.add_mul,Nat.one_mul] at hmul;have hfit:a.off+i*cd.n+cd.n<=(pre++(ZG cd xs++(rest++ZBo))).length:=by simp only [List.length_append,hpre,hcl]; omega
 rw [ZBH hsp];refine ⟨Hp.sub_may (o.2 c (by simp)) (ZBK hb hfit λk h1 h2=>hfz k (by omega) (by omega)),?_⟩;have o':=o.wrs hb (i:=a.off+i*cd.n) (vs:=(cd.enc x).cells.toList) (by rw [hxl]; exact hfit);refine hK _ _ o' ⟨by rw [w.1]; simp,?_⟩;rw [ha];refine ⟨hsp,pre,rest,ZBo,e,fz,?_,hpre,?_,hfz⟩
 .have hset:ZFD (pre++(ZG cd xs++(rest++ZBo))) (a.off+i*cd.n) (cd.enc x).cells.toList=pre++(ZG cd (xs.set i x)++(rest++ZBo)):=by
   have e1:pre++(ZG cd xs++(rest++ZBo))=(pre++ZG cd (xs.take i))++((cd.enc xs[i]).cells.toList++(ZG cd (xs.drop (i+1))++(rest++ZBo))):=by rw [hsplit]; simp only [List.append_assoc]
   have e2:a.off+i*cd.n=(pre++ZG cd (xs.take i)).length:=by rw [List.length_append,hpre,htl]
   have e3:ZG cd (xs.set i x)=ZG cd (xs.take i)++((cd.enc x).cells.toList++ZG cd (xs.drop (i+1))):=by rw [List.set_eq_take_append_cons_drop,if_pos hi,Zp,ZAx]
   rw [e1,e2,ZGs _ _ _ _ (by rw [hol,hxl]),e3];simp only [List.append_assoc]
  rw [<-hset];simp [Hp.upd]
 .rw [List.length_set]; exact hroom
theorem On.at' {h:Hp} {cs l:List Hp} (o:On h (cs++l)) (i:Nat) {c:Hp} (hc:cs[i]?=some c):On h (c::(cs.eraseIdx i++l)):=by have hlt:i<cs.length:=(List.getElem?_eq_some_iff.1 hc).1;have:=o.pull i (c:=c) (by rw [List.getElem?_append_left hlt]; exact hc);rwa [List.eraseIdx_append_of_lt_length hlt] at this
theorem ZIU {α:Type}:∀ (cs:List α) (i:Nat) (c:α),i<cs.length->(c::cs.eraseIdx i).Perm (cs.set i c)
 | [],_,_,h=>by simp at h
 | x::cs,0,c,_=>List.Perm.refl _
 | x::cs,i+1,c,h=>(List.Perm.swap x c _).trans (List.Perm.cons x (ZIU cs i c (by simpa using h)))
theorem On.back' {h:Hp} {cs l:List Hp} {i:Nat} {c:Hp} (o:On h (c::(cs.eraseIdx i++l))) (hi:i<cs.length):On h (cs.set i c++l):=by refine o.perm ?_;exact (ZIU cs i c hi).append_right l
variable {cd:Cdc} {g h c:Hp} {s t:Sl} {xs ys:List cd.T} {l:List Hp}
theorem Own.head (w:Own cd c s xs) (hm:cd.mem=true) {k:Nat} (hk:k≤xs.length):Own cd c ⟨s.a,k,s.cap⟩ (xs.take k):=by
 refine ⟨by simp; omega,?_⟩;have hr:=w.2;cases ha:s.a with
 | none=>rw [ha] at hr; exact ⟨hr.1,by rw [hr.2]; simp⟩
 | some a=>
   rw [ha] at hr;obtain ⟨hsp,pre,rest,ZBo,e,fz,hb,hpre,hroom,hfz⟩:=hr;refine ⟨hsp,pre,ZG cd (xs.drop k)++rest,ZBo,e,fz,?_,hpre,?_,hfz⟩
   .rw [hb];congr 2;rw [<-List.append_assoc (ZG cd (xs.take k)),<-List.append_assoc (ZG cd (xs.take k)),<-Zp,List.take_append_drop,List.append_assoc]
   .rw [List.length_append,Zf hm,List.length_take,List.length_drop,Nat.min_eq_left hk,<-Nat.add_assoc,<-Nat.add_mul];rw [show k+(xs.length-k)=xs.length by omega];exact hroom
theorem Own.le_cap (w:Own cd c s xs) (hn:0<cd.n):xs.length≤s.cap:=by
 have hr:=w.2;cases ha:s.a with
 | none=>rw [ha] at hr; rw [hr.2]; simp
 | some a=>
   rw [ha] at hr;obtain ⟨_,_,rest,_,_,_,_,_,hroom,_⟩:=hr;exact Nat.le_of_mul_le_mul_right (by omega:xs.length*cd.n<=s.cap*cd.n) hn
theorem ZLU {e:TypeId} {bytes:Nat} (o:On h (c::l)) (hm:cd.mem=true) (w:Own cd c s xs) (hy:Row cd g t ys) (hg:g.sub h) (hfit0:xs.length+ys.length≤s.cap) (ha0:s.a≠none)
 {K:Option Addr->Nat->Nat->Hp->Prop} (hK:∀ (c':Hp) (h':Hp),On h' (c'::l)->Own cd c' ⟨s.a,xs.length+ys.length,s.cap⟩ (xs++ys)->K s.a (xs.length+ys.length) s.cap h'):
 ZX cd e bytes s.a s.len s.cap t.a t.len h K:=by
 unfold ZX;refine ZCu hy hg ?_;have hx1:=w.1;have hy1:=hy.1;refine ⟨λhle=>?_,λhlt=>by omega⟩;have hr:=w.2;cases ha:s.a with
 | none=>exact absurd ha ha0
 | some a=>
   rw [ha] at hr;obtain ⟨hsp,pre,rest,ZBo,e',fz,hb,hpre,hroom,hfz⟩:=hr;dsimp only;have hyl:(ZG cd ys).length=ys.length*cd.n:=Zf hm ys;have hxl:(ZG cd xs).length=xs.length*cd.n:=Zf hm xs;have hmul:(xs.length+ys.length)*cd.n<=s.cap*cd.n:=Nat.mul_le_mul_right _ hfit0;rw [Nat.add_mul] at hmul;have hfit:ys.length*cd.n<=rest.length:=by omega
   have hadd:a.add (s.len*cd.n)=⟨a.block,a.off+s.len*cd.n,none⟩:=ZBH hsp _;have hlen:a.off+s.len*cd.n+t.len*cd.n<=(pre++(ZG cd xs++(rest++ZBo))).length:=by simp only [List.length_append,hpre,hxl,hx1,hy1]; omega
   rw [hadd];refine ⟨Hp.sub_may (o.2 c (by simp)) (ZBK hb hlen λk h1 h2=>hfz k (by omega) ?_),?_⟩
   .rw [hx1,hy1] at h2; omega
   ·have o':=o.wrs hb (i:=a.off+s.len*cd.n) (vs:=ZG cd ys) (by rw [hyl,←hy1]; exact hlen);have hKK:=hK _ _ o' ?_
    .rw [ha,hx1] at hKK; rw [hx1,hy1]; exact hKK
    have hset:ZFD (pre++(ZG cd xs++(rest++ZBo))) (a.off+s.len*cd.n) (ZG cd ys)=pre++(ZG cd (xs++ys)++(rest.drop (ys.length*cd.n)++ZBo)):=by
     have hp:(pre++ZG cd xs).length=a.off+s.len*cd.n:=by simp [hpre,hxl,hx1]
     unfold ZFD
     rw [←List.append_assoc pre,←hp,List.take_append_of_le_length (Nat.le_refl _),List.take_length,←List.drop_drop,List.drop_append_of_le_length (Nat.le_refl _),List.drop_length,List.nil_append,hyl,
         List.drop_append_of_le_length hfit,Zp]
     simp [List.append_assoc]
    rw [hset];refine ⟨by simp,?_⟩;show match s.a with|none=>_|some a=>_
    rw [ha];refine ⟨hsp,pre,rest.drop (ys.length*cd.n),ZBo,e',fz,by simp [Hp.upd],hpre,?_,hfz⟩;simp only [List.length_append,List.length_drop,Nat.add_mul];omega
theorem ZGE (o:On h (c::l)) (hm:cd.mem=true) (hn:0<cd.n) (w:Own cd c s xs) {k m:Nat} (hk:xs.length≤k) (hmc:k+m≤s.cap) (hm0:0<m) {z:cd.T} {zz:Nat} (hz:zz=cd.n) {K:Hp→Prop}
 (hK:∀ c' h',On h' (c'::l)->Own cd c' s xs->K h'):ZEC cd z (Zm s.a k s.cap zz) m h K:=by
 subst hz;have hr:=w.2;unfold Zm;rw [if_neg (by omega)];cases ha:s.a with
 | none=>rw [ha] at hr; omega
 | some a=>
   rw [ha] at hr;obtain ⟨hsp,pre,rest,ZBo,e,fz,hb,hpre,hroom,hfz⟩:=hr;have hxl:(ZG cd xs).length=xs.length*cd.n:=Zf hm xs;have hzl:(ZG cd (List.replicate m z)).length=m*cd.n:=by rw [Zf hm]; simp
   have h1:(k+m)*cd.n<=s.cap*cd.n:=Nat.mul_le_mul_right _ hmc;have h2:xs.length*cd.n<=k*cd.n:=Nat.mul_le_mul_right _ hk;rw [Nat.add_mul] at h1;have hfit:a.off+k*cd.n+m*cd.n<=(pre++(ZG cd xs++(rest++ZBo))).length:=by simp only [List.length_append,hpre,hxl]; omega
   show Hp.may h (a.add (k*cd.n)) (m*cd.n)/\K (h.wrs (a.add (k*cd.n)) 0 (ZG cd (List.replicate m z)));rw [ZBH hsp];refine ⟨Hp.sub_may (o.2 c (by simp)) (ZBK hb hfit λj h3 h4=>hfz j (by omega) (by omega)),?_⟩;have o':=o.wrs hb (i:=a.off+k*cd.n) (vs:=ZG cd (List.replicate m z)) (by rw [hzl]; exact hfit);refine hK _ _ o' ⟨w.1,?_⟩;rw [ha];have hset:ZFD (pre++(ZG cd xs++(rest++ZBo))) (a.off+k*cd.n) (ZG cd (List.replicate m z))=
    pre++(ZG cd xs++((rest.take (k*cd.n-xs.length*cd.n)++(ZG cd (List.replicate m z)++rest.drop (k*cd.n-xs.length*cd.n+m*cd.n)))++ZBo)):=by
    have e1:rest=rest.take (k*cd.n-xs.length*cd.n)++((rest.drop (k*cd.n-xs.length*cd.n)).take (m*cd.n)++rest.drop (k*cd.n-xs.length*cd.n+m*cd.n)):=by rw [<-List.drop_drop,List.take_append_drop,List.take_append_drop]
    have e2:pre++(ZG cd xs++(rest++ZBo))=(pre++(ZG cd xs++rest.take (k*cd.n-xs.length*cd.n)))++((rest.drop (k*cd.n-xs.length*cd.n)).take (m*cd.n)++(rest.drop (k*cd.n-xs.length*cd.n+m*cd.n)++ZBo)):=by
     conv=>lhs; rw [e1]
     simp only [List.append_assoc]
    have e3:a.off+k*cd.n=(pre++(ZG cd xs++rest.take (k*cd.n-xs.length*cd.n))).length:=by simp only [List.length_append,hpre,hxl,List.length_take]; omega
    rw [e2,e3,ZGs _ _ _ _ (by rw [hzl]; simp; omega)]
    simp only [List.append_assoc]
   rw [hset];refine ⟨hsp,pre,rest.take (k*cd.n-xs.length*cd.n)++(ZG cd (List.replicate m z)++rest.drop (k*cd.n-xs.length*cd.n+m*cd.n)),ZBo,e,fz,by simp [Hp.upd],hpre,?_,hfz⟩;simp only [List.length_append,List.length_take,List.length_drop,hzl];omega
variable {cd cf:Cdc} {g h c:Hp} {s t:Sl} {xs ys:List cd.T} {l:List Hp}
theorem ZAC (o:On h (c::l)) (hm:cd.mem=true) (hmf:cf.mem=true) (w:Own cd c s xs) {a:Addr} (ha:s.a=some a) {i:Nat} {x0:cd.T} (hx0:xs[i]?=some x0) {m k:Nat} (hn:i*cd.n=m) {y:cf.T} {x':cd.T}
 (hx:ZFD (cd.enc x0).cells.toList k (cf.enc y).cells.toList=(cd.enc x').cells.toList) (hk:k+cf.n<=cd.n) {K:Hp->Prop}
 (hK:∀ c' h',On h' (c'::l)->Own cd c' s (xs.set i x')->K h'):ZV cf ((a.add m).add k) y h K:=by
 subst hn;have hi:i<xs.length:=(List.getElem?_eq_some_iff.1 hx0).1;have hxi:xs[i]=x0:=by have:=List.getElem?_eq_getElem hi; rw [hx0] at this; exact (Option.some.inj this).symm
 have hr:=w.2;rw [ha] at hr;obtain ⟨hsp,pre,rest,ZBo,e,fz,hb,hpre,hroom,hfz⟩:=hr;have hyl:((cf.enc y).cells.toList).length=cf.n:=by simpa using (ZAh hmf y).1
 have hol:((cd.enc x0).cells.toList).length=cd.n:=by simpa using (ZAh hm x0).1
 have hcl:(ZG cd xs).length=xs.length*cd.n:=Zf hm xs;have hsplit:ZG cd xs=ZG cd (xs.take i)++((cd.enc x0).cells.toList++ZG cd (xs.drop (i+1))):=by rw [<-hxi,<-ZAx,<-Zp,<-List.drop_eq_getElem_cons hi,List.take_append_drop]
 have htl:(ZG cd (xs.take i)).length=i*cd.n:=by rw [Zf hm,List.length_take,Nat.min_eq_left (by omega)]
 have hmul:(i+1)*cd.n<=xs.length*cd.n:=Nat.mul_le_mul_right _ hi;rw [Nat.add_mul,Nat.one_mul] at hmul;have hadd:(a.add (i*cd.n)).add k=⟨a.block,a.off+i*cd.n+k,none⟩:=by rw [ZBH hsp,ZCY]
 have hfit:a.off+i*cd.n+k+cf.n<=(pre++(ZG cd xs++(rest++ZBo))).length:=by simp only [List.length_append,hpre,hcl]; omega
 rw [hadd];refine ⟨Hp.sub_may (o.2 c (by simp)) (ZBK hb hfit λj h1 h2=>hfz j (by omega) (by omega)),?_⟩;have o':=o.wrs hb (i:=a.off+i*cd.n+k) (vs:=(cf.enc y).cells.toList) (by rw [hyl]; exact hfit);refine hK _ _ o' ⟨by rw [w.1]; simp,?_⟩;rw [ha];refine ⟨hsp,pre,rest,ZBo,e,fz,?_,hpre,?_,hfz⟩
 ·have hset:ZFD (pre++(ZG cd xs++(rest++ZBo))) (a.off+i*cd.n+k) (cf.enc y).cells.toList=pre++(ZG cd (xs.set i x')++(rest++ZBo)):=by
   have e0:(cd.enc x0).cells.toList=(cd.enc x0).cells.toList.take k++(((cd.enc x0).cells.toList.drop k).take cf.n++(cd.enc x0).cells.toList.drop (k+cf.n)):=by rw [<-List.drop_drop,List.take_append_drop,List.take_append_drop]
   have e1:pre++(ZG cd xs++(rest++ZBo))=(pre++(ZG cd (xs.take i)++(cd.enc x0).cells.toList.take k))++(((cd.enc x0).cells.toList.drop k).take cf.n++((cd.enc x0).cells.toList.drop (k+cf.n)++(ZG cd (xs.drop (i+1))++(rest++ZBo)))):=by
    rw [hsplit];conv=>lhs; rw [e0]
    simp only [List.append_assoc]
   have e2:a.off+i*cd.n+k=(pre++(ZG cd (xs.take i)++(cd.enc x0).cells.toList.take k)).length:=by simp only [List.length_append,hpre,htl,List.length_take,hol]; omega
   have e3:ZG cd (xs.set i x')=ZG cd (xs.take i)++((cd.enc x').cells.toList++ZG cd (xs.drop (i+1))):=by rw [List.set_eq_take_append_cons_drop,if_pos hi,Zp,ZAx]
   rw [e1,e2,ZGs _ _ _ _ (by simp [hol,hyl]; omega),e3,<-hx];unfold ZFD;rw [hyl];simp only [List.append_assoc]
  rw [<-hset];simp [Hp.upd]
 .rw [List.length_set]; exact hroom
theorem On.pick {l:List Hp} (o:On h l) (is:List Nat) (k:Nat) (hn:is.Nodup) (hi:∀ i∈is,i<k):On h (is.filterMap (λi=>l[i]?)++l.drop k):=by
 have key:∀ (i j:Nat) (a b:Hp),i≠j->l[i]?=some a->l[j]?=some b->a.dj b:=by
  intro i j a b hne ha hb;obtain ⟨hi',rfl⟩:=List.getElem?_eq_some_iff.1 ha;obtain ⟨hj',rfl⟩:=List.getElem?_eq_some_iff.1 hb;have hp:=List.pairwise_iff_getElem.1 o.1;rcases Nat.lt_or_gt_of_ne hne with h'|h'
  .exact hp i j hi' hj' h'
  .exact Hp.dj_symm (hp j i hj' hi' h')
 refine ⟨List.pairwise_append.2 ⟨?_,o.1.sublist (List.drop_sublist _ _),?_⟩,?_⟩
 .exact List.pairwise_filterMap.2 (hn.imp λhne b hb b' hb'=>key _ _ _ _ hne hb hb')
 .intro a ha b hb;obtain ⟨i,hi',ha'⟩:=List.mem_filterMap.1 ha;obtain ⟨j,hj⟩:=List.getElem?_of_mem hb;rw [List.getElem?_drop] at hj;exact key i (k+j) a b (by have:=hi i hi'; omega) ha' hj
 .intro c hc;rcases List.mem_append.1 hc with hc|hc
  .obtain ⟨i,_,h'⟩:=List.mem_filterMap.1 hc;exact o.2 c (List.mem_of_getElem? h')
  .exact o.2 c (List.mem_of_mem_drop hc)
variable {cd cf:Cdc} {g h c:Hp} {s t:Sl} {xs ys:List cd.T} {l:List Hp}
theorem ZHq (o:On h (c::l)) (hm:cd.mem=true) (w:Own cd c s xs) {a:Addr} (ha:s.a=some a) {dlen n cap0:Nat} {src:Option Addr} (hy:Row cd g ⟨src,min n dlen,cap0⟩ ys) (hg:g.sub h) (hfit:xs.length+ys.length≤s.cap)
 {K:Int->Hp->Prop} (hK:∀ c' h',On h' (c'::l)->Own cd c' ⟨s.a,xs.length+ys.length,s.cap⟩ (xs++ys)->K (min n dlen:Nat) h'):ZBG cd (some (a.add (xs.length*cd.n))) dlen src n h K:=by
 unfold ZBG;refine ZCu hy hg ?_;have hr:=w.2;rw [ha] at hr;obtain ⟨hsp,pre,rest,ZBo,e',fz,hb,hpre,hroom,hfz⟩:=hr;have hxl:(ZG cd xs).length=xs.length*cd.n:=Zf hm xs;have hyl:(ZG cd ys).length=ys.length*cd.n:=Zf hm ys;have hmul:(xs.length+ys.length)*cd.n<=s.cap*cd.n:=Nat.mul_le_mul_right _ hfit;rw [Nat.add_mul] at hmul;have hy1:min n dlen=ys.length:=hy.1;have hadd:a.add (xs.length*cd.n)=⟨a.block,a.off+xs.length*cd.n,none⟩:=ZBH hsp _;have hlen:a.off+xs.length*cd.n+ys.length*cd.n<=(pre++(ZG cd xs++(rest++ZBo))).length:=by simp only [List.length_append,hpre,hxl]; omega
 dsimp only;rw [hadd];refine ⟨Hp.sub_may (o.2 c (by simp)) (ZBK hb (by rw [hy1]; exact hlen) λk h1 h2=>hfz k (by omega) (by rw [hy1] at h2; omega)),?_⟩;have o':=o.wrs hb (i:=a.off+xs.length*cd.n) (vs:=ZG cd ys) (by rw [hyl]; exact hlen);refine hK _ _ o' ⟨by simp,?_⟩;show match s.a with|none=>_|some a=>_
 rw [ha];have hset:ZFD (pre++(ZG cd xs++(rest++ZBo))) (a.off+xs.length*cd.n) (ZG cd ys)=pre++(ZG cd (xs++ys)++(rest.drop (ys.length*cd.n)++ZBo)):=by
  have hp:(pre++ZG cd xs).length=a.off+xs.length*cd.n:=by simp [hpre,hxl]
  unfold ZFD;rw [<-List.append_assoc pre,<-hp,List.take_append_of_le_length (Nat.le_refl _),List.take_length,<-List.drop_drop,List.drop_append_of_le_length (Nat.le_refl _),List.drop_length,List.nil_append,hyl,
   List.drop_append_of_le_length (by omega),Zp]
  simp [List.append_assoc]
 rw [hset];refine ⟨hsp,pre,rest.drop (ys.length*cd.n),ZBo,e',fz,by simp [Hp.upd],hpre,?_,hfz⟩;simp only [List.length_append,List.length_drop,Nat.add_mul];omega
theorem ZN9 (o:On h (c::l)) (hm:cd.mem=true) (w:Own cd c s xs) {a:Addr} (ha:s.a=some a) {k dlen n cap0:Nat} {src:Option Addr} (hy:Row cd g ⟨src,min n dlen,cap0⟩ ys) (hg:g.sub h) (hk:k+ys.length≤xs.length)
 {K:Int->Hp->Prop} (hK:∀ c' h',On h' (c'::l)->Own cd c' s (xs.take k++(ys++xs.drop (k+ys.length)))->K (min n dlen:Nat) h'):ZBG cd (some (a.add (k*cd.n))) dlen src n h K:=by
 unfold ZBG;refine ZCu hy hg ?_;have hr:=w.2;rw [ha] at hr;obtain ⟨hsp,pre,rest,ZBo,e',fz,hb,hpre,hroom,hfz⟩:=hr;have hxl:(ZG cd xs).length=xs.length*cd.n:=Zf hm xs;have hyl:(ZG cd ys).length=ys.length*cd.n:=Zf hm ys;have hmul:(k+ys.length)*cd.n<=xs.length*cd.n:=Nat.mul_le_mul_right _ hk;rw [Nat.add_mul] at hmul;have hy1:min n dlen=ys.length:=hy.1;have hadd:a.add (k*cd.n)=⟨a.block,a.off+k*cd.n,none⟩:=ZBH hsp _;have htl:(ZG cd (xs.take k)).length=k*cd.n:=by rw [Zf hm,List.length_take,Nat.min_eq_left (by omega)]
 have hml:(ZG cd ((xs.drop k).take ys.length)).length=ys.length*cd.n:=by rw [Zf hm,List.length_take,List.length_drop,Nat.min_eq_left (by omega)]
 have hlen:a.off+k*cd.n+ys.length*cd.n<=(pre++(ZG cd xs++(rest++ZBo))).length:=by simp only [List.length_append,hpre,hxl]; omega
 dsimp only;rw [hadd];refine ⟨Hp.sub_may (o.2 c (by simp)) (ZBK hb (by rw [hy1]; exact hlen) λj h1 h2=>hfz j (by omega) (by rw [hy1] at h2; omega)),?_⟩;have o':=o.wrs hb (i:=a.off+k*cd.n) (vs:=ZG cd ys) (by rw [hyl]; exact hlen);have hl2:(xs.take k++(ys++xs.drop (k+ys.length))).length=xs.length:=by simp; omega
 refine hK _ _ o' ⟨by rw [hl2]; exact w.1,?_⟩;rw [ha];have hset:ZFD (pre++(ZG cd xs++(rest++ZBo))) (a.off+k*cd.n) (ZG cd ys)=pre++(ZG cd (xs.take k++(ys++xs.drop (k+ys.length)))++(rest++ZBo)):=by
  have e1:xs=xs.take k++((xs.drop k).take ys.length++xs.drop (k+ys.length)):=by rw [<-List.drop_drop,List.take_append_drop,List.take_append_drop]
  have e2:pre++(ZG cd xs++(rest++ZBo))=(pre++ZG cd (xs.take k))++(ZG cd ((xs.drop k).take ys.length)++(ZG cd (xs.drop (k+ys.length))++(rest++ZBo))):=by
   conv=>lhs; rw [e1]
   rw [Zp,Zp];simp only [List.append_assoc]
  have e3:a.off+k*cd.n=(pre++ZG cd (xs.take k)).length:=by rw [List.length_append,hpre,htl]
  rw [e2,e3,ZGs _ _ _ _ (by rw [hml,hyl]),Zp,Zp];simp only [List.append_assoc]
 rw [hset];refine ⟨hsp,pre,rest,ZBo,e',fz,by simp [Hp.upd],hpre,?_,hfz⟩;rw [hl2]; exact hroom
def Clo {A:Type} (P:Program) (cc:List Hp) (f:FnV) (args:A->List Value) (c:Cdc) (φ:A->c.T):Prop:=
 ∀ (x:A) (h:Hp) (l:List Hp) (Q:c.T->Hp->Prop),(∀ p∈cc,p∈l)->On h l->(∀ h',On h' l->Q (φ x) h')->ZBV P f.g f.first f.cap (args x) c h Q
def ZO1:Option Nat->Int
 | none=>-1
 | some i=>i
theorem ZIw (a:Option Addr) (cap z:Nat):Zm a 0 cap z=a:=by
 unfold Zm;split
 .rfl
 .cases a<;>simp
theorem ZED {e:TypeId} {bytes:Nat} (o:On h l) (hg:g∈l) (r:Row cd g t ys) (hm:cd.mem=true) (hn:0<cd.n) (hb:bytes<=1024) (hl:ys.length<=1000000) {Q:Sl->Hp->Prop} (hq:∀ s d h',On h' (d::l)->Own cd d s ys->Q s h'):
 ZB t.a.isNone (Q ⟨none,0,0⟩ h) (ZM (.cells #[] e) h λk1 h1=>ZX cd e bytes (some ⟨k1,0,none⟩) 0 0 t.a t.len h1 λp1 k2 k3 h2=>Q ⟨p1,k2,k3⟩ h2):=by
 refine ZD (λhn=>?_) λ_=>?_
 .have ha:t.a=none:=Option.isNone_iff_eq_none.1 hn;have:ys=[]:=by have:=r.2;rw [ha] at this;exact this
  subst this;exact hq _ Hp.emp h o.emp (Own.nil _)
 .refine ZH (vs:=[]) o λk1 h1 o1=>?_;have w0:Own cd (ob k1 [] e) ⟨some ⟨k1,0,none⟩,0,0⟩ []:=ZBN (cd:=cd) (xs:=[]) (rest:=[]) rfl rfl (by simp);have hroom:(0+ys.length)*bytes<=ZAR:=by rw [Nat.zero_add];exact Nat.le_trans (Nat.mul_le_mul hl hb) (by unfold ZAR; omega)
  exact ZU (g:=g) (s:=⟨some ⟨k1,0,none⟩,0,0⟩) (t:=t) o1 hm w0 hn r (o1.mem (by simp [hg])) (by simpa using hroom) λc p k2 k3 h3 o3 w3=>hq ⟨p,k2,k3⟩ c h3 o3 (by simpa using w3)
theorem ZIq {e:TypeId} {bytes z:Nat} {zero:cd.T} (o:On h (c::l)) (w:Own cd c s xs) (hm:cd.mem=true) (hn:0<cd.n) (hz:z=cd.n) {i j:Nat} (hij:i≤j) (hj:j≤xs.length)
 {Q:Sl->Hp->Prop} (hq:∀ s' c' h',On h' (c'::l)->Own cd c' s' (xs.take i++xs.drop j)->Q s' h'):
 ZIA s.cap (some (i:Int)) (j:Int) (s.len:Int) λ_ _ _=>ZB ((i:Int)==(j:Int)) (Q s h) (ZAI s.len s.cap none (some (i:Int)) λk4 k5=>ZAI s.len s.cap (some (j:Int)) none λk6 k7=>
  ZX cd e bytes (Zm s.a k4 s.cap z) (k5-k4) (s.cap-k4) (Zm s.a k6 s.cap z) (k7-k6) h λp1 k8 k9 h1=>ZAI k8 k9 (some (k8:Int)) (some (s.len:Int)) λk10 k11=>ZEC cd zero (Zm p1 k10 k9 z) (k11-k10) h1 λh2=>Q ⟨p1,k8,k9⟩ h2):=by
 have hlen:s.len=xs.length:=w.1;have hcap:=w.le_cap hn;refine ⟨by omega,by omega,by omega,by omega,by omega,?_⟩;refine ZD (λhe=>?_) λhne=>?_
 .have he:i=j:=by
   have:(i:Int)=(j:Int):=by simpa using he
   omega
  subst he;rw [List.take_append_drop] at hq;exact hq s c h o w
 .have hne:i≠j:=by
   have:¬(i:Int)=(j:Int):=by simpa using hne
   omega
  have ha0:s.a≠none:=by intro ha;have:=w.2;rw [ha] at this;rw [this.2] at hj;simp at hj; omega
  refine ⟨by omega,by omega,by omega,by omega,?_⟩;simp only [Int.toNat_natCast,Nat.sub_zero];rw [ZIw];have w0:Own cd c ⟨s.a,i,s.cap⟩ (xs.take i):=w.head hm (by omega);have r1:Row cd c ⟨Zm s.a j s.cap z,s.len-j,s.cap⟩ (xs.drop j):=by have:=(w.row).cut (k:=j) (m:=s.len) (cap':=s.cap) (by omega) (by omega) hcap hm (z:=z) hz;rw [hlen,List.take_of_length_le (by simp)] at this;rwa [hlen]
  have hd:(xs.drop j).length=s.len-j:=by rw [List.length_drop,hlen]
  have ht:(xs.take i).length=i:=by rw [List.length_take]; omega
  have key:=ZLU (e:=e) (bytes:=bytes) (s:=⟨s.a,i,s.cap⟩) (t:=⟨Zm s.a j s.cap z,s.len-j,s.cap⟩) o hm w0 r1 (o.get (i:=0) rfl) (by rw [ht,hd]; dsimp only; omega) ha0
   (K:=λp1 k8 k9 h1=>ZAI k8 k9 (some (k8:Int)) (some (s.len:Int)) λk10 k11=>ZEC cd zero (Zm p1 k10 k9 z) (k11-k10) h1 λh2=>Q ⟨p1,k8,k9⟩ h2) λd' h' o' w'=>?_
  .exact key
  .rw [ht,hd] at w' ⊢;refine ⟨by omega,by omega,by dsimp only; omega,?_⟩;have hl2:(xs.take i++xs.drop j).length=i+(s.len-j):=by rw [List.length_append,ht,hd]
   dsimp only;refine ZGE (s:=⟨s.a,i+(s.len-j),s.cap⟩) (xs:=xs.take i++xs.drop j) o' hm hn w' (k:=((i+(s.len-j):Nat):Int).toNat) (m:=(s.len:Int).toNat-((i+(s.len-j):Nat):Int).toNat) (by omega) (by dsimp only; omega) (by omega) hz λc2 h2 o2 w2=>?_;exact hq _ c2 h2 o2 w2
theorem ZEJ {P:Program} {f:FnV} {cc:List Hp} {φ:cd.T→Bool} (hf:Clo P cc f (fun x=>[cd.enc x]) cB φ) (o:On h l) (hcc:∀ p∈cc,p∈l) (hg:g∈l) (r:Row cd g t ys) (hm:cd.mem=true) {z:Nat} (hz:z=cd.n) (hl:ys.length≤1000000)
 {Q:Int->Hp->Prop} (hq:∀ h',On h' l->Q (ZO1 (ys.findIdx? φ)) h'):
 Zj (0:Int) h λJ1 n1 h1=>ZB (decide (n1<(t.len:Int))) (Zl t.a t.len n1 λa1=>ZC cd (a1.add (n1.toNat*z)) h1 λx1=>ZBV P f.g f.first f.cap [cd.enc x1] cB h1 λt1 h2=>ZB t1 (Q n1 h2) (J1 (IntKind.i64.wrap (n1+1)) h2)) (Q (-1) h1):=by
 have hlen:=r.1;refine Zb (λz h'=>∃ i:Nat,z=i/\i<=ys.length/\On h' l/\∀ x∈ys.take i,φ x=false) (λz=>ys.length-z.toNat) ⟨0,rfl,Nat.zero_le _,o,λx hx=>by cases hx⟩ ?_;rintro J n h1 again ⟨i,rfl,hle,o1,hno⟩
 refine ZJ (λhlt=>?_) λhge=>?_
 ·have hi:i<ys.length:=by omega
  have a0:ys[i]?=some ys[i]:=List.getElem?_eq_getElem hi;refine ZL r (Int.natCast_nonneg i) (by omega) λa ha=>ZO r (o1.mem hg) hm ha (i:=i) a0 (by simp [hz]) ?_;refine hf ys[i] h1 l _ hcc o1 λh2 o2=>?_;refine ZD (λe=>?_) λe=>?_
  .have e1:ys.findIdx? φ=some i:=List.findIdx?_eq_some_iff_getElem.2 ⟨hi,e,λj hj=>by
    have:=hno ys[j] (List.mem_take_iff_getElem.2 ⟨j,by omega,rfl⟩);rw [this]; simp⟩
   have:=hq h2 o2;rw [e1] at this;exact this
  .refine again _ _ ⟨i+1,ZAQ (by omega),by omega,o2,?_⟩ (by rw [ZAQ (by omega)]; omega);intro x hx;rw [List.take_add_one,a0] at hx;rcases List.mem_append.1 hx with hx|hx
   .exact hno x hx
   .simp at hx; subst hx; exact e
 .have:i=ys.length:=by omega
  subst this;rw [List.take_length] at hno;have e1:ys.findIdx? φ=none:=List.findIdx?_eq_none_iff.2 hno;have:=hq h1 o1;rw [e1] at this;exact this
theorem ZYJ {a b:Nat} (ha:a<=1000000) (hb:b<=1000000):IntKind.i64.wrap (ZBT IntKind.u64 (IntKind.u64.wrap (IntKind.i64.wrap ((a:Int)+(b:Int)))) 1)=(((a+b) / 2:Nat):Int):=by
 rw [show IntKind.i64.wrap ((a:Int)+(b:Int))=(a:Int)+(b:Int) from w64 (by omega) (by omega)];have e1:IntKind.u64.wrap ((a:Int)+(b:Int))=((a+b:Nat):Int):=by simp [IntKind.wrap,IntKind.signed,IntKind.bits]; omega
 rw [e1];have e2:ZBT IntKind.u64 ((a+b:Nat):Int) 1=(((a+b) / 2:Nat):Int):=by show (((a+b:Nat):Int)).fdiv (2 ^ 1)=_;rw [Int.fdiv_eq_ediv_of_nonneg _ (by decide)];omega
 rw [e2,w64 (by omega) (by omega)]
theorem ZE4 {P:Program} {f:FnV} {cc:List Hp} {θ:cd.T→Int} {tv:Value} (hf:Clo P cc f (fun x=>[cd.enc x,tv]) (cI .i64) θ) (o:On h l) (hcc:∀ p∈cc,p∈l) (hg:g∈l) (r:Row cd g t ys) (hm:cd.mem=true) {z:Nat} (hz:z=cd.n) (hl:ys.length≤1000000)
 {Q:Int×Bool->Hp->Prop} (hq:∀ (i:Nat) h',i<=ys.length->(∀ k,(∀ x∈ys.take k,θ x<0)->(∀ x∈ys.drop k,0<=θ x)->k<=ys.length->i=k)->On h' l->Q ((i:Int),((ys[i]?).map λx=>θ x==0).getD false) h'):
 Zj ((0:Int),(t.len:Int)) h fun J1 z1 h1=>ZB (decide (z1.1<z1.2))
  (ZY (fun z2 h2=>J1 (z2.1,z2.2) h2) fun (J2:Int×Int→Hp→Prop)=>0≤(1:Int)∧Zl t.a t.len (IntKind.i64.wrap (ZBT IntKind.u64 (IntKind.u64.wrap (IntKind.i64.wrap (z1.1+z1.2))) 1)) fun a1=>
    ZC cd (a1.add ((IntKind.i64.wrap (ZBT IntKind.u64 (IntKind.u64.wrap (IntKind.i64.wrap (z1.1+z1.2))) 1)).toNat*z)) h1 λx1=>ZBV P f.g f.first f.cap [cd.enc x1,tv] (cI .i64) h1 λ(n1:Int) h3=>
     ZB (decide (n1<0)) (J2 (IntKind.i64.wrap (IntKind.i64.wrap (ZBT IntKind.u64 (IntKind.u64.wrap (IntKind.i64.wrap (z1.1+z1.2))) 1)+1),z1.2) h3) (J2 (z1.1,IntKind.i64.wrap (ZBT IntKind.u64 (IntKind.u64.wrap (IntKind.i64.wrap (z1.1+z1.2))) 1)) h3))
  (ZB (decide (z1.1<(t.len:Int))) (Zl t.a t.len z1.1 λa2=>ZC cd (a2.add (z1.1.toNat*z)) h1 λx2=>ZBV P f.g f.first f.cap [cd.enc x2,tv] (cI .i64) h1 λ(n2:Int) h4=>Q (z1.1,n2==0) h4) (Q (z1.1,false) h1)):=by
 have hlen:=r.1;refine Zb (λz h'=>∃ a b:Nat,z=((a:Int),(b:Int))/\a<=b/\b<=ys.length/\On h' l/\∀ k,(∀ x∈ys.take k,θ x<0)->(∀ x∈ys.drop k,0<=θ x)->k<=ys.length->a<=k/\k<=b) (λz=>z.2.toNat-z.1.toNat)
  ⟨0,ys.length,by rw [hlen]; rfl,Nat.zero_le _,Nat.le_refl _,o,λk _ _ hk=>⟨Nat.zero_le _,hk⟩⟩ ?_
 rintro J z1 h1 again ⟨a,b,rfl,hab,hb,o1,hk⟩
 dsimp only;refine ZJ (λhlt=>?_) λhge=>?_
 ·have hlt:a<b:=by omega
  have hmid:=ZYJ (a:=a) (b:=b) (by omega) (by omega);generalize hM:(a+b) / 2=M at hmid;rw [hmid];have hM1:a<=M:=by omega
  have hM2:M<b:=by omega
  refine ZN (λz h'=>∃ a' b':Nat,z=((a':Int),(b':Int))/\a'<=b'/\b'<=ys.length/\On h' l/\(∀ k,(∀ x∈ys.take k,θ x<0)->(∀ x∈ys.drop k,0<=θ x)->k<=ys.length->a'<=k/\k<=b')/\b'-a'<b-a) ?_ λJ2 hJ2=>?_
  .rintro z2 h2 ⟨a',b',rfl,h1',h2',o2,hk',hlt'⟩;exact again _ _ ⟨a',b',rfl,h1',h2',o2,hk'⟩ (by dsimp only; omega)
  .have hi:M<ys.length:=by omega
   have a0:ys[M]?=some ys[M]:=List.getElem?_eq_getElem hi;refine ⟨by decide,?_⟩;refine ZL r (Int.natCast_nonneg M) (by omega) λp hp=>ZO r (o1.mem hg) hm hp (i:=M) a0 (by simp [hz]) ?_;refine hf ys[M] h1 l _ hcc o1 λh2 o2=>?_;refine ZJ (λhneg=>?_) λhnn=>?_
   .rw [ZAQ (by omega)];refine hJ2 _ _ ⟨M+1,b,rfl,by omega,hb,o2,λk k1 k2 k3=>?_,by omega⟩;have hkk:=hk k k1 k2 k3;refine ⟨?_,hkk.2⟩;rcases Nat.lt_or_ge M k with h'|h'
    .exact h'
    .exfalso;have:=k2 ys[M] (List.mem_drop_iff_getElem.2 ⟨M-k,by omega,by congr 1; omega⟩);omega
   .refine hJ2 _ _ ⟨a,M,rfl,hM1,by omega,o2,λk k1 k2 k3=>?_,by omega⟩;have hkk:=hk k k1 k2 k3;refine ⟨hkk.1,?_⟩;rcases Nat.lt_or_ge M k with h'|h'
    .exfalso;have:=k1 ys[M] (List.mem_take_iff_getElem.2 ⟨M,by omega,rfl⟩);omega
    .exact h'
 .have hab':a=b:=by omega
  subst hab';refine ZJ (λhlt=>?_) λhge=>?_
  .have hi:a<ys.length:=by omega
   have a0:ys[a]?=some ys[a]:=List.getElem?_eq_getElem hi;refine ZL r (Int.natCast_nonneg a) (by omega) λp hp=>ZO r (o1.mem hg) hm hp (i:=a) a0 (by simp [hz]) ?_;refine hf ys[a] h1 l _ hcc o1 λh2 o2=>?_;have hq:=hq a h2 hb (λk h2 h3 h4=>by have:=hk k h2 h3 h4; omega) o2;rw [a0] at hq;exact hq
  .have hq:=hq a h1 hb (λk h2 h3 h4=>by have:=hk k h2 h3 h4; omega) o1;rw [List.getElem?_eq_none (by omega)] at hq;exact hq
variable {cd cf:Cdc} {g h c:Hp} {s t:Sl} {xs ys:List cd.T} {l:List Hp}
theorem ZT5 {z:cd.T} {e:TypeId} {bytes len cap cap0:Nat} {a:Option Addr} {n:Int} (o:On h l) (hg:g.sub h) (hy:Row cd g ⟨a,len,cap0⟩ ys) (h0:0<=n) (hcap:cap<len+n.toNat) (hroom:(len+n.toNat)*bytes<=ZAR)
 {K:Option Addr->Nat->Nat->Hp->Prop} (hK:∀ nb nc d h',On h' (d::l)->Own cd d ⟨some ⟨nb,0,none⟩,len,nc⟩ ys->len+n.toNat<=nc->K (some ⟨nb,0,none⟩) (len+n.toNat) nc h'):ZHp cd z e bytes a len cap n h K:=by
 refine ⟨h0,Nat.le_trans (Nat.mul_le_mul_right _ (Nat.le_add_left _ _)) hroom,λhc=>by omega,λ_=>⟨hroom,?_⟩⟩;refine ZCu (s:=⟨a,len,cap0⟩) hy hg ?_;intro nc pad hnc hpad;refine ZH (vs:=ZG cd ys++pad) o λnb h' o'=>?_;have hl:len=ys.length:=hy.1;refine hK nb nc _ h' o' (ZBN (rest:=pad) rfl hl ?_) hnc;rw [hpad,<-hl,<-Nat.add_mul,show len+(nc-len)=nc by omega]
theorem ZMu {P:Program} {f:FnV} {cc:List Hp} {φ:cd.T→Bool} {z:Nat} {zero:cd.T} (hf:Clo P cc f (fun x=>[cd.enc x]) cB φ) (o:On h (c::l)) (hcc:∀ p∈cc,p∈l) (w:Own cd c s xs) (hm:cd.mem=true) (hn:0<cd.n) (hz:z=cd.n) (hl:xs.length≤1000000)
 {Q:Sl->Hp->Prop} (hq:∀ s' c' h',On h' (c'::l)->Own cd c' s' (xs.filter λx=>!φ x)->Q s' h'):
 ZB (ZO1 (xs.findIdx? φ)==-1) (Q s h) (Zj (ZO1 (xs.findIdx? φ),IntKind.i64.wrap (ZO1 (xs.findIdx? φ)+1)) h fun (J1:Int×Int→Hp→Prop) z1 h2=>ZB (decide (z1.2<(s.len:Int)))
  (ZY (λ(n2:Int) h3=>J1 (n2,IntKind.i64.wrap (z1.2+1)) h3) λJ2=>Zl s.a s.len z1.2 λa1=>ZC cd (a1.add (z1.2.toNat*z)) h2 λx1=>ZBV P f.g f.first f.cap [cd.enc x1] cB h2 λt1 h4=>
    ZB (!t1) (Zl s.a s.len z1.1 λa2=>ZV cd (a2.add (z1.1.toNat*z)) x1 h4 λh5=>J2 (IntKind.i64.wrap (z1.1+1)) h5) (J2 z1.1 h4))
  (ZAI s.len s.cap (some z1.1) none λk1 k2=>ZEC cd zero (Zm s.a k1 s.cap z) (k2-k1) h2 λh6=>ZAI s.len s.cap none (some z1.1) λk3 k4=>Q ⟨Zm s.a k3 s.cap z,k4-k3,s.cap-k3⟩ h6)):=by
 have hlen:s.len=xs.length:=w.1;have hcap:=w.le_cap hn;cases hi:xs.findIdx? φ with
 | none=>
   have hall:=List.findIdx?_eq_none_iff.1 hi;have e:(xs.filter λx=>!φ x)=xs:=List.filter_eq_self.2 λx hx=>by rw [hall x hx]; rfl
   rw [e] at hq;exact Zh rfl (hq s c h o w)
 | some i=>
   obtain ⟨hi1,hi2,hi3⟩:=List.findIdx?_eq_some_iff_getElem.1 hi;show ZB ((i:Int)==-1) _ (Zj ((i:Int),IntKind.i64.wrap ((i:Int)+1)) h _);rw [ZAQ (by omega)];refine ZT (by simp) ?_;have hpre:(xs.take i).filter (λx=>!φ x)=xs.take i:=List.filter_eq_self.2 λx hx=>by obtain ⟨j,hj,rfl⟩:=List.mem_take_iff_getElem.1 hx;have:=hi3 j (by omega);simpa using this
   refine Zb (λz h'=>∃ (a j:Nat) (ys:List cd.T) (c':Hp),z=((a:Int),(j:Int))/\a<j/\j<=xs.length/\On h' (c'::l)/\Own cd c' s ys/\ys.take a=(xs.take j).filter (λx=>!φ x)/\ys.drop j=xs.drop j/\ys.length=xs.length) (λz=>xs.length-z.2.toNat)
    ⟨i,i+1,xs,c,rfl,by omega,by omega,o,w,?_,rfl,rfl⟩ ?_
   .rw [List.take_add_one,List.getElem?_eq_getElem hi1,List.filter_append,hpre];simp [hi2]
   rintro J1 z1 h2 again ⟨a,j,ys,c',rfl,haj,hj,o2,w2,ht,hd,hyl⟩
   dsimp only;refine ZJ (λhlt=>?_) λhge=>?_
   ·have hj':j<xs.length:=by omega
    have hjy:ys[j]?=some xs[j]:=by have:=congrArg (λl=>l[0]?) hd;simpa [List.getElem?_drop,hj'] using this
    refine ZN (λn h'=>∃ (a':Nat) (ys':List cd.T) (c2:Hp),n=(a':Int)/\a'<j+1/\On h' (c2::l)/\Own cd c2 s ys'/\ys'.take a'=(xs.take (j+1)).filter (λx=>!φ x)/\ys'.drop (j+1)=xs.drop (j+1)/\ys'.length=xs.length) ?_ λJ2 hJ2=>?_
    .rintro n h3 ⟨a',ys',c2,rfl,h31,o3,w3,t3,d3,l3⟩;rw [ZAQ (by omega)];exact again _ _ ⟨a',j+1,ys',c2,rfl,h31,by omega,o3,w3,t3,d3,l3⟩ (by dsimp only; omega)
    .refine ZL w2.row (Int.natCast_nonneg j) (by omega) λp hp=>ZO w2.row (o2.mem (by simp)) hm hp (i:=j) hjy (by simp [hz]) ?_;refine hf xs[j] h2 (c'::l) _ (λp hp=>by simp [hcc p hp]) o2 λh4 o4=>?_;have hstep:(xs.take (j+1)).filter (λx=>!φ x)=(xs.take j).filter (λx=>!φ x)++if φ xs[j]=true then [] else [xs[j]]:=by rw [List.take_add_one,List.getElem?_eq_getElem hj',List.filter_append];cases hφ:φ xs[j]<;>simp [hφ]
     have hd1:ys.drop (j+1)=xs.drop (j+1):=by rw [<-List.drop_drop,hd,List.drop_drop]
     refine ZD (λe=>?_) λe=>?_
     .have e:φ xs[j]=false:=by simpa using e
      refine ZL w2.row (Int.natCast_nonneg a) (by omega) λp hp=>?_;refine ZBy o4 hm w2 hp (i:=a) (by omega) (by simp [hz]) λc5 h5 o5 w5=>?_;rw [ZAQ (by omega)];refine hJ2 _ _ ⟨a+1,ys.set a xs[j],c5,rfl,by omega,o5,w5,?_,?_,by simp [hyl]⟩
      .rw [hstep,e,List.take_add_one];simp only [List.getElem?_set_self (show a<ys.length by omega)];rw [List.take_set_of_le (Nat.le_refl a),ht];simp
      .rw [List.drop_set_of_lt (by omega)]; exact hd1
     .have e:φ xs[j]=true:=by simpa using e
      refine hJ2 _ _ ⟨a,ys,c',rfl,by omega,o4,w2,?_,hd1,hyl⟩;rw [hstep,e,ht]; simp
   .have hjl:j=xs.length:=by omega
    subst hjl;rw [List.take_length] at ht;refine ⟨by omega,by omega,?_⟩;rw [Int.toNat_natCast];have w3:=w2.head hm (k:=a) (by omega);rw [ht] at w3;have ha:(xs.filter λx=>!φ x).length=a:=by rw [<-ht,List.length_take]; omega
    refine ZGE (s:=⟨s.a,a,s.cap⟩) o2 hm hn w3 (k:=a) (m:=s.len-a) (by omega) (by dsimp only; omega) (by omega) hz λc6 h6 o6 w6=>?_;refine ⟨by omega,by omega,?_⟩;rw [Int.toNat_natCast];dsimp only;rw [Nat.sub_zero,Nat.sub_zero,ZIw];exact hq _ c6 h6 o6 w6
open Go.Sort Go.Proofs
theorem ZHF {α:Type} {k:Nat} (enc:α->List Value) (hk:∀ x,(enc x).length=k):∀ l:List α,(l.flatMap enc).length=l.length*k
 | []=>by simp
 | x::l=>by rw [List.flatMap_cons,List.length_append,hk,ZHF enc hk l,List.length_cons,Nat.succ_mul,Nat.add_comm]
section
variable {α:Type} [Inhabited α]
theorem ZHJ {k:Nat} (enc:α→List Value) (hk:∀ x,(enc x).length=k):∀ (l:List α) (t:Nat),t<l.length*k→(l.flatMap enc)[t]?=(enc l[t / k]!)[t % k]?
 | [],t,h=>by simp at h
 | x::l,t,h=>by
   rw [List.flatMap_cons];by_cases ht:t<k
   .rw [List.getElem?_append_left (by rw [hk]; exact ht),Nat.div_eq_of_lt ht,Nat.mod_eq_of_lt ht]; rfl
   .rw [List.getElem?_append_right (by rw [hk]; omega),hk];have k0:0<k:=by
     rcases Nat.eq_zero_or_pos k with e|e
     .subst e; simp at h
     .exact e
    have h2:=ZHJ enc hk l (t-k) (by rw [List.length_cons,Nat.succ_mul] at h; omega);have e1:t / k=(t-k) / k+1:=Nat.div_eq_sub_div k0 (by omega);have e2:t % k=(t-k) % k:=Nat.mod_eq_sub_mod (by omega);rw [h2,e1,e2];rfl
theorem ZHH {k:Nat} (enc:α→List Value) (hk:∀ x,(enc x).length=k) (d:Array α):(flatK enc k d).toList=d.toList.flatMap enc:=by
 apply List.ext_getElem?;intro t;by_cases ht:t<d.size*k
 .rw [ZHJ enc hk d.toList t (by simpa using ht)];have h1:=get_flatK enc k d t ht;have hs:t<(flatK enc k d).size:=by rw [size_flatK]; exact ht
  have k0:0<k:=by
   rcases Nat.eq_zero_or_pos k with e|e
   .subst e; simp at ht
   .exact e
  have hm:t % k<(enc d.toList[t / k]!).length:=by rw [hk]; exact Nat.mod_lt _ k0
  rw [List.getElem?_eq_getElem hm,Array.getElem?_toList,Array.getElem?_eq_getElem hs];rw [getElem!_pos _ t hs] at h1;rw [h1];have hq:t / k<d.size:=Nat.div_lt_of_lt_mul (by rw [Nat.mul_comm]; exact ht);have e:d.toList[t / k]! = d[t / k]! := by rw [getElem!_pos d.toList (t / k) (by simpa using hq),getElem!_pos d (t / k) hq];exact Array.getElem_toList _
  congr 1;rw [getElem!_pos _ _ (by rw [hk]; exact Nat.mod_lt _ k0)];simp only [e]
 .rw [List.getElem?_eq_none (by rw [Array.length_toList,size_flatK]; omega),List.getElem?_eq_none (by rw [ZHF enc hk]; simpa using ht)]
theorem ZUE {w:World} {blk off:Nat} {F:Array Value} {pre tail:List Value} {e:TypeId} {fz:Nat×Nat} (hb:w.heap[blk]?=some (.cells (pre++(F.toList++tail)).toArray e fz)) (hp:pre.length=off) (hf:∀ j,off<=j->j<off+F.size->¬(fz.1<=j/\j<fz.2)):Holds id w blk off F:=by
 intro j hj;have hg:(pre++(F.toList++tail))[off+j]?=some F[j]! := by rw [List.getElem?_append_right (by omega),hp,Nat.add_sub_cancel_left,List.getElem?_append_left (by simpa using hj),Array.getElem?_toList,Array.getElem?_eq_getElem hj,getElem!_pos _ j hj]
 refine ⟨?_,?_⟩
 .unfold World.cell?;simp only [hb];simpa using hg
 .unfold World.frozen?;simp only [hb];have:=hf (off+j) (by omega) (by omega);simpa using this
theorem ZZp {off:Nat} {F F':Array Value} {pre tail:List Value} (hp:pre.length=off) (hs:F'.size=F.size):putCells id off F' (pre++(F.toList++tail)).toArray=(pre++(F'.toList++tail)).toArray:=by
 apply Array.ext_getElem?;intro j;unfold putCells;rw [Array.getElem?_mapIdx];simp only [List.getElem?_toArray];by_cases h1:j<off
 .have e:∀ X:List Value,(pre++(X++tail))[j]?=pre[j]?:=λX=>List.getElem?_append_left (by omega);rw [e,e,List.getElem?_eq_getElem (by omega)];simp only [Option.map_some];rw [if_neg (by omega)]
 ·have e:∀ X:List Value,(pre++(X++tail))[j]?=(X++tail)[j-off]?:=fun X=>by rw [List.getElem?_append_right (by omega),hp]
  rw [e,e];by_cases h2:j<off+F.size
  .have a1:j-off<F.size:=by omega
   have a2:j-off<F'.size:=by omega
   have e1:(F.toList++tail)[j-off]?=F[j-off]?:=by rw [List.getElem?_append_left (by simpa using a1),Array.getElem?_toList]
   have e2:(F'.toList++tail)[j-off]?=F'[j-off]?:=by rw [List.getElem?_append_left (by simpa using a2),Array.getElem?_toList]
   rw [e1,e2,Array.getElem?_eq_getElem a1,Array.getElem?_eq_getElem a2];simp only [Option.map_some,id_eq];rw [if_pos ⟨by omega,by omega⟩,getElem!_pos F' (j-off) a2]
  ·have e1:(F.toList++tail)[j-off]?=tail[j-off-F.size]?:=by rw [List.getElem?_append_right (by rw [Array.length_toList]; omega),Array.length_toList]
   have e2:(F'.toList++tail)[j-off]?=tail[j-off-F.size]?:=by rw [List.getElem?_append_right (by rw [Array.length_toList]; omega),Array.length_toList,hs]
   rw [e1,e2];cases tail[j-off-F.size]? with
   | none=>rfl
   | some v=>
     simp only [Option.map_some];rw [if_neg (by omega)]
theorem ZTN {P:Program} {f:FuncId} {args:List Value} {k:Nat} {enc:α→List Value} {d:Array α} {Good:Array α→Prop} {blk off:Nat} {c h:Hp} {l:List Hp} {pre tail:List Value} {e:TypeId} {fz:Nat×Nat} (hk:∀ x,(enc x).length=k)
 (o:On h (c::l)) (hb:c blk=some (.cells (pre++(d.toList.flatMap enc++tail)).toArray e fz)) (hp:pre.length=off) (hf:∀ j,off<=j->j<off+d.size*k->¬(fz.1<=j/\j<fz.2))
 (H:∀ w:World,Go.Sort.HoldsK enc k w blk off d->blk<w.heap.size->Calls P f args.toArray w λe w'=>e=.returned (.tuple #[])/\∃ d' n os,Good d'/\d'.size=d.size/\w'=Go.Proofs.sortWorldK enc k w blk off n d' os)
 {Q:Unit->Hp->Prop} (hq:∀ d' c' h',On h' (c'::l)->c' blk=some (.cells (pre++(d'.toList.flatMap enc++tail)).toArray e fz)->Good d'->d'.size=d.size->Q () h'):ZA P f args (ZW []) h Q:=by
 intro w fr hw hfr hdj;have hcb:=o.mem (by simp) blk _ hb;have hwb:=hw blk _ hcb;have hlt:blk<w.heap.size:=(Array.getElem?_eq_some_iff.1 hwb).1;have hH:HoldsK enc k w blk off d:=by
  refine ZUE (pre:=pre) (tail:=tail) (e:=e) (fz:=fz) ?_ hp ?_
  .rw [ZHH enc hk]; exact hwb
  .rw [size_flatK]; exact hf
 refine (H w hH hlt).mono ?_;rintro ex w' ⟨rfl,d',n,os,hg,hsz,rfl⟩;have hat:∀ b,b<w.heap.size->b≠blk->(sortWorldK enc k w blk off n d' os).heap[b]?=w.heap[b]?:=by intro b hbl hne;unfold sortWorldK putRowK putRow mapBlock grow;show ((w.heap.modify blk _)++os)[b]?=_;rw [Array.getElem?_append_left (by rw [Array.size_modify]; exact hbl),Array.getElem?_modify,if_neg (λe=>hne e.symm)]
 have hself:(sortWorldK enc k w blk off n d' os).heap[blk]?=some (.cells (pre++(d'.toList.flatMap enc++tail)).toArray e fz):=by unfold sortWorldK putRowK putRow mapBlock grow;show ((w.heap.modify blk _)++os)[blk]?=_;rw [Array.getElem?_append_left (by rw [Array.size_modify]; exact hlt),Array.getElem?_modify,if_pos rfl,hwb];simp only [Option.map_some,onCells];rw [<-ZHH enc hk d,ZZp hp (by rw [size_flatK,size_flatK,hsz]),ZHH enc hk d']
 refine ⟨_,h.upd blk (.cells (pre++(d'.toList.flatMap enc++tail)).toArray e fz),rfl,⟨(),rfl,hq d' _ _ (o.upd hb _) (by simp [Hp.upd]) hg hsz⟩,?_,?_,?_,⟨rfl,rfl,rfl⟩⟩
 .intro b o' ho;unfold Hp.upd at ho;by_cases hbb:b=blk
  .subst hbb;rw [if_pos rfl] at ho;cases ho;exact hself
  .rw [if_neg hbb] at ho;have h1:=hw b o' ho;rw [hat b (Array.getElem?_eq_some_iff.1 h1).1 hbb];exact h1
 .intro b o' ho;have hbb:b≠blk:=by
   rintro rfl;rcases hdj b with e1|e1
   .rw [hcb] at e1; cases e1
   .rw [e1] at ho; cases ho
  have h1:=hfr b o' ho;rw [hat b (Array.getElem?_eq_some_iff.1 h1).1 hbb];exact h1
 .intro b;unfold Hp.upd;by_cases hbb:b=blk
  .subst hbb;rcases hdj b with e1|e1
   .rw [hcb] at e1; cases e1
   .exact .inr e1
  .rw [if_neg hbb];exact hdj b
end
def ZEo (P:Program):Nat→List FuncId→List FuncId→Option (List FuncId)
 | _,[],seen=>some seen.reverse
 | 0,_::_,_=>none
 | n+1,f::todo,seen=>
   if seen.contains f then ZEo P n todo seen
   else ZEo P n ((P.funcs[f]?).elim [] P.leadsTo++todo) (f::seen)
theorem ZGA {P:Program}:∀ (n:Nat) (todo seen:List FuncId) (L:List FuncId),ZEo P n todo seen=some L→∀ m,n≤m→P.closureVia m todo seen=L
 | 0,[],seen,L,h,m,_=>by
   have h:some seen.reverse=some L:=h;cases h;cases m<;>rfl
 | 0,_::_,_,_,h,_,_=>by cases h
 | n+1,[],seen,L,h,m,_=>by
   have h:some seen.reverse=some L:=h;cases h;cases m<;>rfl
 | n+1,f::todo,seen,L,h,m,hm=>by
   obtain ⟨m,rfl⟩:∃ k,m=k+1:=⟨m-1,by omega⟩
   unfold ZEo at h;unfold Program.closureVia;by_cases hc:seen.contains f=true
   .rw [if_pos hc] at h ⊢;exact ZGA n _ _ L h m (by omega)
   .rw [if_neg hc] at h ⊢;exact ZGA n _ _ L h m (by omega)
theorem ZIv {P:Program} {n:Nat} {f:FuncId} {L:List FuncId} (h:ZEo P n [f] []=some L) (hn:n<=1+(P.funcs.toList.map λg=>(P.leadsTo g).length+1).sum):P.closure f=L:=by unfold Program.closure;exact ZGA n _ _ L h _ hn
def ZV9 (P:Program) (n:Nat) (f:FuncId) (L:List FuncId) (c:OpenClaim):Bool:=
 Nat.ble n (1+(P.funcs.toList.map λg=>(P.leadsTo g).length+1).sum)&&(ZEo P n [f] []==some L)&&
 (L.all λg=>((P.funcs[g]?).elim [] P.leadsTo).all λh=>(ZEo P n [h] []).isSome)&&
 (c.inPlace==L.filterMap λg=>(P.funcs[g]?).bind λfn=>if fn.ours||fn.body.isNone||fn.name == "runtime.NumGoroutine" then some fn.name else none)&&
 (c.unfollowed==L.any λg=>(P.funcs[g]?).any λfn=>match fn.body with|some c=>c.unfollowed|none=>entryCalls fn)&&
 (c.recurses==((L.any λg=>(P.funcs[g]?).any λfn=>match fn.body with|some c=>c.unfollowed|none=>entryCalls fn)||L.any λg=>((P.funcs[g]?).elim [] P.leadsTo).any λh=>((ZEo P n [h] []).getD []).contains g))&&
 (c.named==(((L.flatMap λg=>((P.funcs[g]?).bind (·.body)).elim [] Code.globalsNamed).eraseDups).filterMap (λg=>(P.globals[g]?).map (·.name))++
   L.filterMap λg=>(P.funcs[g]?).bind λfn=>if fn.body.isNone then entryReads.lookup fn.name else none).eraseDups)
def ZJf (ws:List (List Nat)):List (List Char):=behindMainWord (ws.map λw=>w.map Char.ofNat)
theorem ZT9 {P:Program} {cs:List Nat} {ws:List (List Nat)} (h:P.initOrder=String.ofList (cs.map Char.ofNat)) (hw:wordsSigns (cs.map Char.ofNat)=ws.map λw=>w.map Char.ofNat):behindMainWord (wordsSigns P.initOrder.toList)=ZJf ws:=by rw [h,String.toList_ofList,hw]; rfl
def ZKL (P:Program) (W:List (List Char)):Bool:=
 match W with
 | c::rest=>
   ((c == "gc".toList||c == "spec".toList)&&(rest.isEmpty||rest.head?==some "stop".toList))||
   (c == "carried".toList&&rest.take 2==["gc".toList,"cut".toList]&&!P.laysLater&&!P.bearsReflect)||
   ((stripLifts liftWords (c::rest)).2.head?==some "cut".toList&&
     ((stripLifts liftWords (c::rest)).1.contains "finals" || !P.laysLater)&&((stripLifts liftWords (c::rest)).1.contains "reflectrows" || !P.bearsReflect)&&
     ((stripLifts liftWords (c::rest)).1.contains "reflectrows" || !(stripLifts liftWords (c::rest)).1.contains "leanrows")&&
     P.doorFits (stripLifts liftWords (c::rest)).1)
 | []=>false
def ZF8 (W:List (List Char)):List String:=
 let r:=stripLifts liftWords W
 if r.2.head?==some "cut".toList then r.1 else []
def ZHd (W:List (List Char)):Bool:=
 (W.head?==some "carried".toList&&W.take 3 != ["carried".toList,"gc".toList,"cut".toList])||(ZF8 W).contains "finals"
def ZYy (W:List (List Char)):Option Make:=
 match W with
 | c::rest=>if c == "gc".toList||c == "spec".toList then some .whole else if c == "cut".toList||(c == "finals".toList&&rest.head?==some "cut".toList) then some .cut else if c == "carried".toList then some .carried else if (ZF8 W).isEmpty then none else some (.lifted (ZF8 W))
 | []=>none
theorem ZMl {P:Program} {W:List (List Char)} (h:behindMainWord (wordsSigns P.initOrder.toList)=W) (m:ZKL P W=true):P.mayEnter=true:=by unfold Program.mayEnter; rw [h]; exact m
theorem ZJm {P:Program} {W:List (List Char)} (h:behindMainWord (wordsSigns P.initOrder.toList)=W):P.liftsFinal=ZHd W:=by unfold Program.liftsFinal Program.headLifts; rw [h]; rfl
theorem ZWd {P:Program} {W:List (List Char)} (h:behindMainWord (wordsSigns P.initOrder.toList)=W):P.make=ZYy W:=by unfold Program.make Program.headLifts; rw [h]; rfl
def ZQX (P:Program) (fn:Func) (s:ChangeSpec) (c:OpenClaim):Bool:=
 c.wf (OpenSpec.ofChange s)
def ZR4 (P:Program) (fn:Func) (s:ChangeSpec) (c:OpenClaim):Bool:=
 laidOutB P
def ZQa (P:Program) (fn:Func) (s:ChangeSpec) (c:OpenClaim):Bool:=
 mapsRowed P
def ZTM (P:Program) (fn:Func) (s:ChangeSpec) (c:OpenClaim):Bool:=
 fn.params.all (P.readableRec ·)&&namedTie P c.named s.vars&&(c.stops==[])&&(P.stops==[])&&(c.knobs==[])&&(P.stopKnobs==[])
def ZRy (P:Program) (fn:Func) (s:ChangeSpec) (c:OpenClaim):Bool:=
 (c.maps==(fn.params.toList++s.plain.varTypes P).any (P.mapsRec ·))&&(c.ifaces==(fn.params.toList++s.plain.varTypes P).any (P.ifacesRec ·))&&(c.mapsOut==P.mapsAmong fn.resultTypes.toList)
def ZRm (P:Program) (fn:Func) (s:ChangeSpec) (c:OpenClaim):Bool:=
 (c.loops==(fn.params.toList++s.plain.varTypes P).any (P.loopsFrom ·))
def ZRE (P:Program) (fn:Func) (s:ChangeSpec) (c:OpenClaim):Bool:=
 (c.wideKeys==(fn.params.toList++s.plain.varTypes P++fn.resultTypes.toList).any (P.wideKeysFrom ·))&&s.vars.all (P.varReadable ·)&&fn.resultTypes.all (λt=>P.readableRec t&&decide (t<P.types.size))&&(c.ifacesOut==fn.resultTypes.toList.any (P.ifacesRec ·))
def ZSz (P:Program) (fn:Func) (s:ChangeSpec) (c:OpenClaim):Bool:=
 (c.loopsOut==fn.resultTypes.toList.any (P.loopsFrom ·))
def ZTO (P:Program) (fn:Func) (s:ChangeSpec) (c:OpenClaim):Bool:=
 (c.plainKeys==P.plainKeys)
def ZN0 (P:Program) (fn:Func) (s:ChangeSpec) (c:OpenClaim):Bool:=
 c.shortTexts.isNone&&P.stopsHeard
def ZTe (P:Program) (W:List (List Char)):Bool:=
 ZKL P W
def ZNT (c:OpenClaim) (W:List (List Char)):Bool:=
 (c.lifted==ZHd W)
def ZOO (fn:Func) (P:Program) (c:OpenClaim) (W:List (List Char)):Bool:=
 (ZYy W==some c.make)&&(c.kinds==(if c.domain.isEmpty then [] else fn.params.toList.map λt=>match P.underlying t with|some (.int k)=>some k|_=>none))&&(c.pinned==c.pinnedBy)
def ZOD (P:Program) (fn:Func) (s:ChangeSpec) (c:OpenClaim):Bool:=
 (c.veiled==(fn.params.toList++s.plain.varTypes P++fn.resultTypes.toList).any (P.veiledRec ·))
def ZOb (P:Program) (fn:Func) (s:ChangeSpec) (c:OpenClaim):Bool:=
 c.veiledFits P fn.params.toList (fn.params.toList++s.plain.varTypes P++fn.resultTypes.toList)
theorem ZYI {P:Program} {f:FuncId} {fn:Func} {s:ChangeSpec} {c:OpenClaim} {cs:List Nat} {ws:List (List Nat)} (n:Nat) (L:List FuncId) (hi:P.initOrder=String.ofList (cs.map Char.ofNat)) (hw:wordsSigns (cs.map Char.ofNat)=ws.map fun w=>w.map Char.ofNat) (h1:ZV9 P n f L c=true) (o1:ZQX P fn s c=true) (o2:ZR4 P fn s c=true) (o3:ZQa P fn s c=true) (o4:ZTM P fn s c=true) (o5:ZRy P fn s c=true) (o6:ZRm P fn s c=true) (o7:ZRE P fn s c=true) (o8:ZSz P fn s c=true) (o9:ZTO P fn s c=true) (o10:ZN0 P fn s c=true) (o11:ZTe P (ZJf ws)=true) (o12:ZNT c (ZJf ws)=true) (o13:ZOO fn P c (ZJf ws)=true) (o14:ZOD P fn s c=true) (o15:ZOb P fn s c=true):joinedFacts P f fn s c=true:=by
 unfold ZV9 at h1;simp only [Bool.and_eq_true] at h1;obtain ⟨⟨⟨⟨⟨⟨a1,a2⟩,a3⟩,a4⟩,a5⟩,a6⟩,a7⟩:=h1;have hn:=Nat.le_of_ble_eq_true a1;have hL:P.closure f=L:=ZIv (by simpa using a2) hn;have hh:∀ g∈L,∀ h∈(P.funcs[g]?).elim [] P.leadsTo,P.closure h=(ZEo P n [h] []).getD []:=by intro g hg h hh;have:=List.all_eq_true.1 (List.all_eq_true.1 a3 g hg) h hh;obtain ⟨M,hM⟩:=Option.isSome_iff_exists.1 this;rw [hM]; exact ZIv hM hn
 have b4:(c.inPlace==P.inPlace f)=true:=by unfold Program.inPlace; rw [hL]; exact a4
 have b5:(c.unfollowed==P.unfollowed f)=true:=by unfold Program.unfollowed; rw [hL]; exact a5
 have b6:(c.recurses==P.recurses f)=true:=by
  unfold Program.recurses Program.unfollowed;rw [hL];have e:(L.any λg=>((P.funcs[g]?).elim [] P.leadsTo).any λh=>(P.closure h).contains g)=L.any λg=>((P.funcs[g]?).elim [] P.leadsTo).any λh=>((ZEo P n [h] []).getD []).contains g:=by
   rw [Bool.eq_iff_iff,List.any_eq_true,List.any_eq_true];constructor
   .rintro ⟨g,hg,h⟩;rw [List.any_eq_true] at h;obtain ⟨x,hx,hxc⟩:=h;exact ⟨g,hg,List.any_eq_true.2 ⟨x,hx,by rw [<-hh g hg x hx]; exact hxc⟩⟩
   .rintro ⟨g,hg,h⟩;rw [List.any_eq_true] at h;obtain ⟨x,hx,hxc⟩:=h;exact ⟨g,hg,List.any_eq_true.2 ⟨x,hx,by rw [hh g hg x hx]; exact hxc⟩⟩
  rw [e]; exact a6
 have b7:(c.named==P.varsNamed f)=true:=by unfold Program.varsNamed; rw [hL]; exact a7
 unfold ZQX at o1;have k1:=o1;unfold ZR4 at o2;have k2:=o2;unfold ZQa at o3;have k3:=o3;unfold ZTM at o4;simp only [Bool.and_eq_true] at o4;obtain ⟨⟨⟨⟨⟨k4,k5⟩,k6⟩,k7⟩,k8⟩,k9⟩:=o4;unfold ZRy at o5;simp only [Bool.and_eq_true] at o5;obtain ⟨⟨k14,k15⟩,k16⟩:=o5;unfold ZRm at o6;have k17:=o6;unfold ZRE at o7;simp only [Bool.and_eq_true] at o7;obtain ⟨⟨⟨k17b,k18⟩,k19⟩,k20⟩:=o7;unfold ZSz at o8;have k21:=o8;unfold ZTO at o9;have k22:=o9;unfold ZN0 at o10;simp only [Bool.and_eq_true] at o10;obtain ⟨k23,k23b⟩:=o10;have hW:=ZT9 hi hw;have k24:=ZMl hW o11;unfold ZNT at o12;rw [<-ZJm hW] at o12;have k24b:=o12;unfold ZOO at o13;rw [<-ZWd hW] at o13;simp only [Bool.and_eq_true] at o13;obtain ⟨⟨k24c,k25⟩,k26⟩:=o13;unfold ZOD at o14;have k27:=o14;unfold ZOb at o15;have k28:=o15;unfold joinedFacts;simp only [Bool.and_eq_true];exact ⟨⟨⟨⟨⟨⟨⟨⟨⟨⟨⟨⟨⟨⟨⟨⟨⟨⟨⟨⟨⟨⟨⟨⟨⟨⟨⟨⟨⟨⟨⟨k1,k2⟩,k3⟩,k4⟩,k5⟩,k6⟩,k7⟩,k8⟩,k9⟩,b4⟩,b5⟩,b6⟩,b7⟩,k14⟩,k15⟩,k16⟩,k17⟩,k17b⟩,k18⟩,k19⟩,k20⟩,k21⟩,k22⟩,k23⟩,k23b⟩,k24⟩,k24b⟩,k24c⟩,k25⟩,k26⟩,k27⟩,k28⟩
end Go.Eng
