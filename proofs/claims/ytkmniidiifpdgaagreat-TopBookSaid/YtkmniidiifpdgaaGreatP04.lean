/- Made by program: of our texts what this law needs (FlowP FlowQ FlowR FlowS MsgP MsgQ MsgR MsgS SessP SessQ SessR SessS SessY LineP LineQ LineR ModA TopA TopB TopSP TopSL TopSC TopS TopC TopD TopE TopF TopG TopH TopI TopJ TopK). -/
import Derived.Test.YtkmniidiifpdgaaGreatP03
import Derived.Test.YtkmniidiifpdgaaGreatChecked
import Derived.Shelf.SlSortCmp.NoneTotal
import Derived.Lib.Overlaps
import Derived.Laws.Externs
set_option linter.unusedVariables false
namespace Go.Proofs.YtkmniidiifpdgaaGreat
open Go.Eng
open IntKind (i64 u64 u8)
abbrev Xw:=@decide_eq_true_eq
abbrev XE:=@decide_eq_decide
abbrev Wd:=@Int.eq_ofNat_of_zero_le
abbrev Wj:=@List.length_filter_le
abbrev WF:=@Classical.not_not
abbrev WH:=@List.set_getElem_self
abbrev WU:=@Bool.false_and
abbrev WV:=@List.sum_cons
abbrev WW:=@List.set_set
abbrev Yk:=@Bool.false_or
abbrev Ys:=@Bool.and_eq_false_iff
abbrev YK:=@List.any_eq_false
abbrev YR:=@Option.toList_some
abbrev YW:=@List.sum_append
abbrev YZ:=@Int.mul_nonneg
abbrev Vd:=@List.takeWhile_cons
abbrev Ve:=@List.length_pos_iff
abbrev Vl:=@List.filter_nil
abbrev VA:=@Int.mul_le_mul
abbrev VF:=@Nat.le_add_right
abbrev VH:=@List.getElem_map
abbrev VO:=@List.sum_nil
abbrev Ub:=@Bool.and_false
variable {l b body bs all rest held ns:List Int}{k n lost off i k2 len k1 beat want a4 a5 a6 j k0:Nat}{p0 z p1 sl:Sl}{g h h0 c ck d:Hp}{Q:Bool->Hp->Prop}{e:TypeId}{s t v a tv q:Int}{sls:List Sl}{outs out:List (List Int)}{K:Option Addr->Nat->Nat->Hp->Prop}{p kp pf ps pb:Option Addr}{T α:Type}{m m':Msg}{P:Int->Prop}{cs vs:List Value}{x:ZY}{xs:List Due}{S:Value->Hp->Prop}{up:Bool}{cd:Cdc}{f:FnV}{φ:ZF.T->Bool}{θ:ZAs.T->Int}{y:ZE}{ys:List ZE}
def ZMW:List Int->Bool
 | []=>false
 | [x]=>x==197
 | x::y::t=>x==197&&decide (y<=80)&&decide ((t.length:Int)<y+4)
def ZEy:Nat->List Int->List (List Int)×List Int×Nat
 | 0,l=>([],l,0)
 | n+1,l=>if l=[]\/ZMW l=true then ([],l,0) else
   match ZCd l with
   | some (b,k)=>(b::(ZEy n (l.drop k)).1,(ZEy n (l.drop k)).2.1,(ZEy n (l.drop k)).2.2)
   | none=>((ZEy n (l.drop 1)).1,(ZEy n (l.drop 1)).2.1,(ZEy n (l.drop 1)).2.2+1)
theorem ZEf(h:ZCd l=some (b,k)):6<=k/\k<=l.length:=by
 match l,h with
 | x::y::t,h0=>
   have o:ZEA x y t=some (b,k):=h0;unfold ZEA at o;by_cases r:x=197/\y<=80/\y.toNat+4<=t.length/\(t.drop y.toNat).take 4=ZC9 (ZEe (197::y::t.take y.toNat))
   .rw [Xe r]at o;cases o;have:=r.2.2.1;refine⟨by omega,by simp;omega⟩
   .rw [Xd r]at o;cases o
theorem ZJm:∀ (n m:Nat) (l:List Int),l.length<=n->l.length<=m->ZEy n l=ZEy m l
 | 0,0,_,_,_=>rfl
 | 0,m+1,l,h,_=>by
   obtain rfl:l=[]:=WJ.1 (by omega);rfl
 | n+1,0,l,_,h=>by
   obtain rfl:l=[]:=WJ.1 (by omega);rfl
 | n+1,m+1,l,h1,h2=>by
   unfold ZEy;by_cases o:l=[]\/ZMW l=true
   .rw [Xe o,Xe o]
   ·rw[Xd o,Xd o];have hl:0<l.length:=by
     cases l with
     | nil=>exact absurd (.inl rfl) o
     | cons a b=>simp
    cases w:ZCd l with
    | none=>
      dsimp only;rw[ZJm n m (l.drop 1) (by simp;omega) (by simp;omega)]
    | some r=>
      obtain⟨b,k⟩:=r;have:=ZEf w;dsimp only;rw[ZJm n m (l.drop k) (by simp;omega) (by simp;omega)]
def Z9(l:List Int):List (List Int)×List Int×Nat:=ZEy l.length l
theorem ZSu:Z9 []=([],[],0):=rfl
theorem ZL6(h:ZMW l=true):Z9 l=([],l,0):=by
 unfold Z9;cases l with
 | nil=>rfl
 | cons a b=>
   show ZEy (b.length+1) (a::b)=_;unfold ZEy;rw[Xe (Or.inr h)]
theorem ZGk(h:ZMW l=false)(o:ZCd l=some (b,k)):Z9 l=(b::(Z9 (l.drop k)).1,(Z9 (l.drop k)).2.1,(Z9 (l.drop k)).2.2):=by
 have r:=ZEf o;cases l with
 | nil=>simp at r;omega
 | cons a t=>
   have e:Z9 (a::t)=ZEy (t.length+1) (a::t):=rfl;rw[e];unfold ZEy
   rw[Xd (by rintro(h'|h');cases h';rw[h]at h';cases h'),o]
   dsimp only;have:=ZJm t.length ((a::t).drop k).length ((a::t).drop k) (by simp at r⊢;omega) (Xc _);rw[this];rfl
theorem ZIy(h0:l≠[])(h:ZMW l=false)(o:ZCd l=none):Z9 l=((Z9 (l.drop 1)).1,(Z9 (l.drop 1)).2.1,(Z9 (l.drop 1)).2.2+1):=by
 cases l with
 | nil=>exact absurd rfl h0
 | cons a t=>
   have e:Z9 (a::t)=ZEy (t.length+1) (a::t):=rfl;rw[e];unfold ZEy
   rw[Xd (by rintro(h'|h');cases h';rw[h]at h';cases h'),o]
   rfl
theorem ZLj(hl:body.length<=80)(rest:List Int):ZMW (ZBH body++rest)=false:=by show ((197:Int)==197&&decide ((body.length:Int)<=80)&&decide (((body++ZC9 (ZEe (ZBQ body))++rest).length:Int)<(body.length:Int)+4))=false;have:=ZC0 (ZEe (ZBQ body));rw[Xj (p:=(((body++ZC9 (ZEe (ZBQ body))++rest).length:Int)<(body.length:Int)+4)) (by simp only[Xg];omega),Ub]
theorem ZCz:∀ (n:Nat) (l:List Int),l.length<=n->ZAD l->(((Z9 l).1.map λb=>b.length+6).sum+(Z9 l).2.1.length+(Z9 l).2.2=l.length)/\(∀ b∈(Z9 l).1,ZAD b)/\ZAD (Z9 l).2.1
 | n,l,hn,hb=>by
   by_cases h0:l=[]
   .subst h0;rw[ZSu];exact⟨rfl,by simp,hb⟩
   ·cases D:ZMW l with
    | true=>rw[ZL6 D];exact⟨by simp,by simp,hb⟩
    | false=>
      have F:0<l.length:=Ve.2 h0;obtain⟨n,rfl⟩:∃ k,n=k+1:=⟨n-1,by omega⟩
      cases B:ZCd l with
      | none=>
        rw[ZIy h0 D B];obtain⟨o,w,A⟩:=ZCz n (l.drop 1) (by simp;omega) (hb.drop 1);refine⟨?_,w,A⟩;rw[XN]at o;dsimp only;omega
      | some r=>
        obtain⟨b,k⟩:=r;obtain⟨G,H,C,I⟩:=ZQY hb B;rw[ZGk D B];obtain⟨o,w,A⟩:=ZCz n (l.drop k) (by simp;omega) (hb.drop k);refine⟨?_,?_,A⟩
        .rw [XN]at o;simp only[XS,WV];omega
        .intro x E;rcases Xm.1 E with rfl|E
         .intro y L;have:y∈ZBH x:=by simp[ZBH,ZBQ,L]
          rw[<-C]at this;exact hb y (WN this)
         .exact w x E
theorem ZG2:∀ (bs:List (List Int)),(∀ b∈bs,b.length<=80)->Z9 (bs.map ZBH).flatten=(bs,[],0)
 | [],_=>rfl
 | b::bs,h=>by
   have hl:=h b (by simp);rw[XS,List.flatten_cons,ZGk (ZLj hl _) (ZPZ hl _)];rw[show (ZBH b++(bs.map ZBH).flatten).drop (b.length+6)=(bs.map ZBH).flatten by
    rw[<-ZEk b,XF (Xc _),XY,XV]]
   rw[ZG2 bs λx o=>h x (by simp[o])]
theorem ZUL(E:g.sub h)(r:Row (cI .u8) g p0 bs)(D:ZAD bs)(F:bs.length<=1000000)(o:Q (ZMW bs) h):cx 189 [Value.slice p0.a p0.len p0.cap] cB h Q:=by
 refine c189 ?_;have hl:=r.1;match bs,r,D,hl,o,F with
 | [],r,D,hl,o,_=>
   refine ZI (λt w=>w=h/\t=true) ?_ λJ C=>Zf (by rw[hl];rfl) (C _ _ ⟨rfl,rfl⟩);rintro t w ⟨rfl,rfl⟩;exact Zf rfl o
 | [x],r,D,hl,o,_=>
   refine ZI (λt w=>w=h/\t=(x != 197)) ?_ λJ C=>ZU (by rw[hl];rfl) ?_
   .rintro t w ⟨rfl,rfl⟩;refine ZD (λe=>?_) λe=>Zf (by rw[hl];rfl) ?_
    .have:ZMW [x]=false:=by show (x==197)=false;simpa using e
     rw[this]at o;exact o
    .have:ZMW [x]=true:=by show (x==197)=true;simpa using e
     rw[this]at o;exact o
   .exact ZN r (by omega) (by simp) λa B=>ZQ r E rfl B (i:=0) (m:=0) rfl rfl (C _ _ ⟨rfl,rfl⟩)
 | x::y::t,r,D,hl,o,F=>
   have H:=D y (by simp);have hl:p0.len=t.length+2:=hl;have F:t.length+2<=1000000:=F;have G:ZMW (x::y::t)=(x==197&&decide (y<=80)&&decide ((t.length:Int)<y+4)):=rfl;rw[G]at o;refine ZI (λt w=>w=h/\t=(x != 197)) ?_ λJ C=>ZU (by rw[hl];simp;omega) ?_
   .rintro t w ⟨rfl,rfl⟩;refine ZD (λe=>?_) λe=>ZU (by rw[hl];simp;omega) ?_
    .rw [show (x==197)=false by simpa using e]at o;exact o
    .rw [show (x==197)=true by simpa using e,Wq]at o;refine ZN r (by omega) (by simp;omega) λa B=>ZQ r E rfl B (i:=1) (m:=1) rfl rfl ?_;refine ZG (λA=>?_) λA=>?_
     .rw [XB A,Wq]at o;refine ZN r (by omega) (by simp;omega) λa B=>ZQ r E rfl B (i:=1) (m:=1) rfl rfl ?_;rw[w64 (n:=y) (by omega) (by omega),w64 (n:=6+y) (by omega) (by omega),hl];have e:decide (((t.length+2:Nat):Int)<6+y)=decide ((t.length:Int)<y+4):=XE.2 (by omega);rw[e];exact o
     .rw [Xj A,WU]at o;exact o
   .exact ZN r (by omega) (by simp;omega) λa B=>ZQ r E rfl B (i:=0) (m:=0) rfl rfl (C _ _ ⟨rfl,rfl⟩)
def ZGx(p:Option Addr)(held:List Int)(lost:Nat)(c:Hp)(e:TypeId):Prop:=
 ∃ b s d,p=sj b/\On c [ob b [.slice s.a s.len s.cap,vi lost] e,d]/\Own (cI .u8) d s held
variable {l:List Hp}
theorem ZZR(o:On h (ob k [Value.slice none 0 0,vi 0] e::l)):∃ c,On h (c::l)/\ZGx (sj k) [] 0 c e:=by have o2:On h ([ob k [Value.slice none 0 0,vi 0] e,Hp.emp]++l):=o.emp.swap;obtain⟨r,w⟩:=o2.joined;exact⟨_,r,k,⟨none,0,0⟩,Hp.emp,rfl,w,Own.nil _⟩
theorem ZTF(o:On h l){Q:Option Addr->Hp->Prop}(A:∀ p c h',On h' (c::l)->ZGx p [] 0 c 278->Q p h'):cx 105 [] cP h Q:=by refine c105 ?_;unfold F105;refine ZH o λk1 r B=>?_;obtain⟨c,o2,w⟩:=ZZR B;exact A _ c r o2 w
theorem ZSE{A B r dB:Hp}{s:Sl}(o:On h (dB::A::B::r::l))(Y:Own cSl B z sls)(V:ZEb r sls outs)(X:Own (cI .u8) dB s body)(Z:sls.length<=1000000)(G:∀ p n m d' r' h',On h' (A::d'::r'::l)->Own cSl d' ⟨p,n,m⟩ (sls++[s])->ZEb r' (sls++[s]) (outs++[body])->K p n m h'):
 ZJ (Obj.cells {toList:=[Value.slice s.a s.len s.cap]} 85) h λw C=>ZR cSl 85 24 z.a z.len z.cap (some {block:=w,off:=0}) 1 C K:=by
 refine ZH o λw C L=>?_;have U:Row cSl (ob w [Value.slice s.a s.len s.cap] 85) ⟨sj w,1,1⟩ [s]:=Zk rfl rfl;have F:On C (B::ob w [Value.slice s.a s.len s.cap] 85::dB::A::r::l):=L.pick [3,0,1,2,4] 5;refine ZW (g:=ob w [Value.slice s.a s.len s.cap] 85) (s:=z) (t:=⟨sj w,1,1⟩) F rfl Y (by decide) U (F.mem (by simp)) (by unfold ZAW;simp;omega) λD R I H E M W=>?_;have N:On E ([r,dB]++A::D::l):=M.pick [4,2,3,0] 5;obtain⟨O,ob⟩:=N.joined;refine G R I H D _ E (O.pick [1,2,0] 3) W (ZDE.app (ZEb.sub (ob.mem (by simp)) V) ⟨X.row.sub (ob.mem (by simp)),trivial⟩)
theorem ZSC{p:Nat->Prop}:∀ n,p n->∃ k,p k/\∀ m,p m->k<=m:=by
 intro n;induction n using Nat.strongRecOn with
 | _ n A=>
   intro r;by_cases h:∃ m,m<n/\p m
   .obtain ⟨m,o,w⟩:=h;exact A m o w
   .exact ⟨n,r,λm o=>by
     rcases WB m n with h'|h'
     .exact absurd ⟨m,h',o⟩ h
     .exact h'⟩
open Classical in
theorem ZXM{x0:T}{B:(T->Hp->Prop)->T->Hp->Prop}(I:Nat->T->Hp->Prop)(n:Nat)(D:I n x0 h0)(step:∀ (J:T->Hp->Prop) (n:Nat) (x:T) (h:Hp),(∀ m x' h',I m x' h'->m<n->J x' h')->I n x h->B J x h):Ze x0 h0 B:=by
 refine⟨λx h=>∃ n,I n x h,λx h=>if h':∃ n,I n x h then Classical.choose (ZSC (p:=λn=>I n x h) _ h'.choose_spec) else 0,⟨n,D⟩,λx h C=>?_⟩;have key:∀ x h (h':∃ n,I n x h),(if h':∃ n,I n x h then Classical.choose (ZSC (p:=λn=>I n x h) _ h'.choose_spec) else 0)=Classical.choose (ZSC (p:=λn=>I n x h) _ h'.choose_spec):=λx h h'=>dif_pos h';have E:=Classical.choose_spec (ZSC (p:=λn=>I n x h) _ C.choose_spec);refine step _ _ x h (λm x' h' r o=>⟨⟨m,r⟩,?_⟩) E.1;have A:∃ n,I n x' h':=⟨m,r⟩
 have w:=Classical.choose_spec (ZSC (p:=λn=>I n x' h') _ A.choose_spec);dsimp only;rw[key x h C,key x' h' A];exact Nat.lt_of_le_of_lt (w.2 m r) o
def Mid(all rest:List Int)(outs:List (List Int))(n:Nat):Prop:=
 (Z9 all).1=outs++(Z9 rest).1/\(Z9 all).2.1=(Z9 rest).2.1/\(Z9 all).2.2=n+(Z9 rest).2.2/\ZAD rest/\outs.length+n+rest.length<=all.length
theorem Mid.start(o:ZAD all):Mid all all [] 0:=⟨rfl,rfl,by omega,o,by simp⟩
theorem Mid.none(m:Mid all rest outs n)(h0:rest≠[])(h:ZMW rest=false)(A:ZCd rest=none):Mid all (rest.drop 1) outs (n+1):=by obtain⟨o,r,w,B,C⟩:=m;rw[ZIy h0 h A]at o r w;have:=Ve.2 h0;exact⟨o,r,by dsimp only at w;omega,B.drop 1,by rw[XN];omega⟩
theorem Mid.some(m:Mid all rest outs n)(h:ZMW rest=false)(o:ZCd rest=some (b,k)):Mid all (rest.drop k) (outs++[b]) n:=by obtain⟨r,w,A,B,C⟩:=m;rw[ZGk h o]at r w A;have:=ZEf o;exact⟨by rw[r];simp,w,A,B.drop k,by rw[XN,Xg,Xv];omega⟩
theorem Mid.stop(m:Mid all rest outs n)(h:rest=[]\/ZMW rest=true):Z9 all=(outs,rest,n):=by
 obtain⟨o,r,w,A,B⟩:=m;have e:Z9 rest=([],rest,0):=by
  rcases h with rfl|h
  .rfl
  .exact ZL6 h
 rw[e]at o r w;obtain⟨a,b,c⟩:(Z9 all).1=outs/\(Z9 all).2.1=rest/\(Z9 all).2.2=n:=⟨by simpa using o,r,by simpa using w⟩
 rw[<-a,<-b,<-c]
def ZXT:List Sl->List (List Int)->Prop:=ZDE λs bs=>bs.length<=s.cap
theorem ZKo{m:Sl}(o:On h (c::l))(w:ZGx p held lost c 278)(hg:g∈l)(r:Row (cI .u8) g m bs)(hbh:ZAD held)(hb:ZAD bs)(hl:held.length+bs.length<=1000000)(hlost:lost<=1000000){Q:Sl->Hp->Prop}(hq:∀ s ss c' r' h',On h' (c'::r'::l)->ZGx p (Z9 (held++bs)).2.1 (lost+(Z9 (held++bs)).2.2) c' 278->Row cSl r' s ss->ZEb r' ss (Z9 (held++bs)).1->ZXT ss (Z9 (held++bs)).1->Q s h'):
 cx 115 [vp p,Value.slice m.a m.len m.cap] cSl h Q:=by
 obtain⟨b,s,d,rfl,oc,wd⟩:=w;refine c115 ?_;dsimp only[ZM];have os:=o.split oc;refine ZU rfl ?_;refine ZL (x:=s) os 0 rfl rfl ?_;refine ZW (g:=g) (s:=s) (t:=m) os.swap rfl wd (by decide) r (os.mem (by simp[hg])) (by unfold ZAW;omega) λN p1 k1 k2 h1 o1 w1=>?_;have C:ZAD (held++bs):=by
  intro x hx;rcases Xx.1 hx with hx|hx
  .exact hbh x hx
  .exact hb x hx
 have hal:(held++bs).length<=1000000:=by rw[Xg];exact hl
 generalize held++bs=all at hq w1 C hal;have oi:On h1 (ob b [.slice s.a s.len s.cap,vi (lost:Int)] 278::Hp.emp::Hp.emp::N::l):=o1.swap.emp.emp.pick [2,0,1] 3;refine Zc (λz h'=>∃ (n:Nat) (outs:List (List Int)) (rest:List Int) (sls:List Sl) (G r:Hp),Mid all rest outs n/\
  On h' (ob b [.slice s.a s.len s.cap,vi ((lost+n:Nat):Int)] 278::G::r::N::l)/\Own cSl G z.1 sls/\ZEb r sls outs/\Row (cI .u8) N z.2 rest/\rest.length<=z.2.cap/\ZXT sls outs) (λz=>z.2.len)
  ⟨0,[],all,[],Hp.emp,Hp.emp,Mid.start C,oi,Own.nil _,trivial,w1.row,w1.le_cap (by decide),trivial⟩ ?_
 rintro J z h2 B ⟨n,outs,rest,sls,G,r2,F,o2,wo,rr,A,D,H⟩
 have E:=A.1;have V:=F.2.2.2.1;have hsz:=F.2.2.2.2;have hsl:=rr.len;refine ZI (λt h'=>h'=h2/\(t=true->rest≠[]/\ZMW rest=false)/\(t=false->rest=[]\/ZMW rest=true)) ?_ λJ3 U=>?_
 ·rintro t h3 ⟨rfl,ht,hf⟩;refine ZD (λe=>?_) λe=>?_
  .obtain ⟨X,Y⟩:=ht e;clear ht hf;have Z:=Ve.2 X;refine ZI (λzz h'=>J (zz.1,zz.2) h') (λ_ _ h=>h) λJ2 R=>?_;refine ZZG (p0:=z.2) o2 (g:=N) (by simp) A V D (by omega) (λhn h4 M=>?_) λbody k hk s4 d4 h4 M w4=>?_
   .refine ZU rfl ?_;refine ZL (x:=((lost+n:Nat):Int)) M 0 rfl rfl ?_;have ew:i64.wrap (((lost+n:Nat):Int)+1)=((lost+(n+1):Nat):Int):=Z1 (by omega);rw[ew];refine ZX (cd:=ci) (i:=1) (x:=((lost+(n+1):Nat):Int)) (vs':=[.slice s.a s.len s.cap,vi ((lost+(n+1):Nat):Int)]) M rfl rfl (Xc 2) λh5 o5=>?_;refine⟨by omega,by omega,?_⟩;have W:=A.cut (k:=1) (m:=rest.length) (cap':=z.2.cap-1) (by omega) (by omega) D rfl (z:=1) rfl;rw[XU (by simp)]at W;refine R _ _ (B _ _ ⟨n+1,outs,rest.drop 1,sls,G,r2,F.none X Y hn,o5,wo,rr,?_,?_,H⟩ ?_)
    .rw [E];exact W
    .rw [XN];dsimp only;omega
    .dsimp only;omega
   .have hk2:=ZEf hk;refine Zf rfl (ZSE M wo rr w4 (by omega) λp n5 m5 O r5 h5 o5 w5 rr5=>?_);refine⟨by dsimp only;omega,by dsimp only;omega,?_⟩;have W:=A.cut (k:=k) (m:=rest.length) (cap':=z.2.cap-k) (by omega) (by omega) D rfl (z:=1) rfl;rw[XU (by simp)]at W;dsimp only;rw[XD];refine R _ _ (B _ _ ⟨n,outs++[body],rest.drop k,sls++[s4],O,r5,F.some Y hk,o5,w5,rr5,?_,?_,ZDE.app H ⟨w4.le_cap (by decide),trivial⟩⟩ ?_)
    .rw [E];exact W
    .rw [XN];dsimp only;omega
    .dsimp only;omega
  .have I:=F.stop (hf e);rw[I]at hq;refine ZH o2 λL h4 M=>?_;have w0:Own (cI .u8) (ob L [] 5) ⟨sj L,0,0⟩ []:=ZAx (cd:=cI .u8) (xs:=[]) (rest:=[]) rfl rfl rfl;refine ZW (g:=N) (s:=⟨sj L,0,0⟩) (t:=z.2) M rfl w0 (by decide) A (M.mem (by simp)) (by unfold ZAW;simp;omega) λO p5 n5 m5 h5 o5 w5=>?_;have o5':On h5 (ob b [.slice s.a s.len s.cap,vi ((lost+n:Nat):Int)] 278::O::G::r2::l):=o5.pick [1,0,2,3] 5;refine ZX (cd:=cSl) (i:=0) (x:=(⟨p5,n5,m5⟩:Sl)) (vs':=[.slice p5 n5 m5,vi ((lost+n:Nat):Int)]) o5' rfl rfl (Ws 1) λh6 o6=>?_;obtain⟨o7,o8⟩:=On.joined (cs:=[_,O]) (l:=G::r2::l) o6;obtain⟨o9,oa⟩:=On.joined (cs:=[G,r2]) (o7.pick [1,2,0] 3);exact hq z.1 sls _ _ h6 o9.swap ⟨b,⟨p5,n5,m5⟩,O,rfl,o8,w5⟩ (wo.row.sub (oa.mem (by simp))) (ZEb.sub (oa.mem (by simp)) rr) H
 .refine ZG (λZ=>?_) λh0=>U _ _ ⟨rfl,λh=>(by cases h),λ_=>.inl (WJ.1 (by omega))⟩;refine ZUL (o2.mem (by simp)) A V (by omega) (U _ _ ⟨rfl,λh=>⟨?_,by simpa using h⟩,λh=>.inr (by simpa using h)⟩);rintro rfl;rw[Yd]at E;omega
theorem ZGD{l:List Int}(o:ZAD l):(∀ b∈(Z9 l).1,ZAD b)/\ZAD (Z9 l).2.1:=(ZCz l.length l (Xc _) o).2
theorem ZaN{l:List (List Int)}:l.length<=(l.map λb=>b.length+6).sum:=by
 induction l with
 | nil=>exact Xc _
 | cons a l o=>simp only[XS,WV,XI];omega
theorem ZKc{l:List Int}(o:ZAD l):(Z9 l).1.length+(Z9 l).2.1.length+(Z9 l).2.2<=l.length:=by have r:=(ZCz l.length l (Xc _) o).1;have w:=ZaN (l:=(Z9 l).1);omega
def ZQi:List Int:=[-1,1,0,0,1,0,5,1,3,5,3,1,1,1,1,1,1,2,2,2,4,2,5,4,3,2,2,1,6]
def ZAC(k:Int):Int:=if k<0 then -1 else ZQi.getD k.toNat (-1)
variable {k:Int}
theorem kinds(h:∀ n:Nat,n<29->P n)(o:0<=k)(r:k<29):P k:=by
 obtain⟨n,rfl⟩:∃ n:Nat,k=n:=⟨k.toNat,by omega⟩
 exact h n (by omega)
theorem ZIO(h:k<0\/29<=k):ZAC k=-1:=by
 unfold ZAC;by_cases h0:k<0
 .rw [Xe h0]
 .rw [Xd h0,Yb,XP (by simp[ZQi];omega)];rfl
theorem ZBi(k:Int):-1<=ZAC k/\ZAC k<=6:=by
 by_cases h:k<0\/29<=k
 .rw [ZIO h];omega
 .have key:∀ n:Nat,n<29->-1<=ZAC n/\ZAC n<=6:=by decide +kernel
  exact kinds (P:=λk=>-1<=ZAC k/\ZAC k<=6) key (by omega) (by omega)
theorem Zar{Q:Int->Hp->Prop}(r:Q (ZAC k) h):F193 k h Q:=by
 by_cases w:k<0\/29<=k
 .have o:∀ c:Int,0<=c->c<29->(k==c)=false:=by intro c A B;simp only[Wy,ne_eq];omega
  rw[ZIO w]at r;unfold F193 ZT;simp only[o 1 (by decide) (by decide),o 2 (by decide) (by decide),o 3 (by decide) (by decide),o 4 (by decide) (by decide),o 5 (by decide) (by decide),o 6 (by decide) (by decide),o 7 (by decide) (by decide),o 8 (by decide) (by decide),o 9 (by decide) (by decide),o 10 (by decide) (by decide),o 11 (by decide) (by decide),o 12 (by decide) (by decide),o 13 (by decide) (by decide),o 14 (by decide) (by decide),o 15 (by decide) (by decide),o 16 (by decide) (by decide),o 17 (by decide) (by decide),o 18 (by decide) (by decide),o 19 (by decide) (by decide),o 20 (by decide) (by decide),o 21 (by decide) (by decide),o 22 (by decide) (by decide),o 23 (by decide) (by decide),o 24 (by decide) (by decide),o 25 (by decide) (by decide),o 26 (by decide) (by decide),o 27 (by decide) (by decide),o 28 (by decide) (by decide)];exact r
 .have:k=0\/k=1\/k=2\/k=3\/k=4\/k=5\/k=6\/k=7\/k=8\/k=9\/k=10\/k=11\/k=12\/k=13\/k=14\/k=15\/k=16\/k=17\/k=18\/k=19\/k=20\/k=21\/k=22\/k=23\/k=24\/k=25\/k=26\/k=27\/k=28:=by omega
  rcases this with rfl|rfl|rfl|rfl|rfl|rfl|rfl|rfl|rfl|rfl|rfl|rfl|rfl|rfl|rfl|rfl|rfl|rfl|rfl|rfl|rfl|rfl|rfl|rfl|rfl|rfl|rfl|rfl|rfl<;>exact r
variable {K:Int->Prop}
theorem ZNA(r:K (ZAC k)):ZTn TP 193 [vi k] ci K:=by refine⟨ZAC k,?_,r⟩;have:=c193 (p0:=k) (h:=Hp.emp) (Q:=λx h'=>x=ZAC k/\h'=Hp.emp) (Zar ⟨rfl,rfl⟩);exact ZHn.mono this λv h' ⟨x,e,ex,o⟩=>⟨by rw[e,ex],o⟩
theorem ZOX(o:On h l){Q:Int->Hp->Prop}(B:∀ h',On h' l->Q (ZAC k) h'):cx 67 [vi k] ci h Q:=by
 refine c67 ?_;refine ZH o λk1 D r=>?_;have C:Row ci (ob k1 _ 3) ⟨sj k1,29,29⟩ ZQi:=Zk rfl rfl;refine ZI (λt h'=>h'=D/\t=decide (k<0\/29<=k)) ?_ λJ w=>?_
 .rintro t G ⟨rfl,rfl⟩;refine ZG (λA=>?_) λA=>?_
  .have:=B _ r.tail;rw[ZIO A]at this;exact this
  .obtain ⟨n,rfl⟩:∃ n:Nat,k=n:=⟨k.toNat,by omega⟩
   have F:n<29:=by omega
   have hl:n<ZQi.length:=F;refine ZN C (Xb n) (by simp[ZQi];omega) λa E=>ZQ C (r.get (i:=0) rfl) rfl E (i:=n) (Xa hl) (by simp) ?_;have:=B _ r.tail;have e:ZAC n=ZQi[n]:=by unfold ZAC;rw[Xd (by omega),XD,Yb,Xa hl];rfl
   rw[e]at this;exact this
 .refine ZG (λh0=>w _ _ ⟨rfl,by simp;omega⟩) λh0=>w _ _ ⟨rfl,XE.2 (by omega)⟩
def fs(m:Msg):List Int:=[m.F_0,m.F_1,m.F_2,m.F_3,m.F_4,m.F_5]
def mkM(k:Int)(l:List Int):Msg:=⟨k,l.getD 0 0,l.getD 1 0,l.getD 2 0,l.getD 3 0,l.getD 4 0,l.getD 5 0⟩
theorem ZEH(m:Msg):(fs m).length=6:=rfl
def isV(m:Msg):Bool:=decide (0<=ZAC m.Kind)&&((fs m).drop (ZAC m.Kind).toNat).all (·==0)
theorem ZZ4(o:m.Kind=m'.Kind)(h:fs m=fs m'):m=m':=by cases m;cases m';simp only[fs,List.cons.injEq,and_true]at h;obtain⟨rfl,rfl,rfl,rfl,rfl,rfl⟩:=h;cases o;rfl
theorem ZZU(k:Int)(l:List Int):fs (mkM k l)=l.take 6++List.replicate (6-l.length) 0:=by
 match l with
 | []=>rfl
 | [_]=>rfl
 | [_,_]=>rfl
 | [_,_,_]=>rfl
 | [_,_,_,_]=>rfl
 | [_,_,_,_,_]=>rfl
 | _::_::_::_::_::_::t=>
   rw[show 6-(_::_::_::_::_::_::t:List Int).length=0 by simp];rfl
theorem ZNm(h:isV m=true):0<=ZAC m.Kind/\mkM m.Kind ((fs m).take (ZAC m.Kind).toNat)=m:=by
 unfold isV at h;rw[Xf,Xw]at h;obtain⟨h0,o⟩:=h;have w:=(ZBi m.Kind).2;refine⟨h0,ZZ4 rfl ?_⟩;generalize (ZAC m.Kind).toNat=n at o;rw[ZZU];have hl:=ZEH m;rw[XU (by rw[Xk];omega)];conv=>rhs;rw[<-XO n (fs m)]
 congr 1;rw[Xk,hl];refine(List.eq_replicate_iff.2 ⟨by rw[XN,hl];omega,λb r=>?_⟩).symm;have:=Wn.1 o b r;simpa using this
variable {n:Int}
theorem ZTa(h:cs[off]?=some (vi n))(r:K n):ZOh ci cs off K:=by
 refine⟨n,λi v o=>?_,r⟩;have o:[vi n][i]?=some v:=o;match i,o with
 | 0,o=>cases o;exact h
theorem ZXC(m:Msg)(o:i<6):∃ x,(fs m)[i]?=some x/\(ZAk.enc m).cells.toList[1+i*1]?=some (vi x):=by
 match i,o with
 | 0,_=>exact⟨_,rfl,rfl⟩
 | 1,_=>exact⟨_,rfl,rfl⟩
 | 2,_=>exact⟨_,rfl,rfl⟩
 | 3,_=>exact⟨_,rfl,rfl⟩
 | 4,_=>exact⟨_,rfl,rfl⟩
 | 5,_=>exact⟨_,rfl,rfl⟩
theorem ZYk(k:Int)(l:List Int)(o:i<6)(hl:l.length=i)(n:Int):(ZAk.enc (mkM k (l++[n]))).cells.toList=ZE9 (ZAk.enc (mkM k l)).cells.toList (1+i*1) [vi n]:=by
 match i,o,l,hl with
 | 0,_,[],_=>rfl
 | 1,_,[_],_=>rfl
 | 2,_,[_,_],_=>rfl
 | 3,_,[_,_,_],_=>rfl
 | 4,_,[_,_,_,_],_=>rfl
 | 5,_,[_,_,_,_,_],_=>rfl
theorem ZGm{p:Sl}(D:g.sub h)(r:Row ci g p ns){Q:Msg->Hp->Prop}(F:Q (mkM k (ns.take 6)) h):cx 69 [vi k,Value.slice p.a p.len p.cap] ZAk h Q:=by
 refine c69 ?_;have hl:=r.1;refine Zc (λz h'=>∃ i:Nat,z=(mkM k (ns.take i),(i:Int))/\i<=6/\i<=ns.length/\h'=h) (λz=>6-z.2.toNat) ⟨0,rfl,Xh _,Xh _,rfl⟩ ?_;rintro J z h' o ⟨i,rfl,H,E,rfl⟩
 refine ZI (λt B=>B=h'/\t=decide (i<ns.length/\i<6)) ?_ λG w=>?_
 ·rintro t B ⟨rfl,rfl⟩;refine ZG (λA=>?_) λA=>?_
  .have a0:ns[i]?=some ns[i]:=Xa A.1;refine ZN r (Xb i) (by dsimp only;omega) λa C=>ZQ r D rfl C (i:=i) a0 (by simp) ?_;refine⟨Xb i,by dsimp only;omega,?_⟩;dsimp only;rw[XD];refine⟨by simp;omega,_,ZYk k (ns.take i) A.2 (by rw[Xk];omega) ns[i],?_⟩;refine o _ _ ⟨i+1,?_,by omega,by omega,rfl⟩ (by dsimp only;rw[Z1 (by omega)];omega);rw[Z1 (by omega),XH,a0];rfl
  .have e:ns.take i=ns.take 6:=by
    rcases WB i 6 with h|h
    .rw [XU (by omega),XU (by omega)]
    .rw [show i=6 by omega]
   dsimp only;rw[e];exact F
 .dsimp only;refine ZG (λh0=>w _ _ ⟨rfl,XE.2 (by omega)⟩) λh0=>w _ _ ⟨rfl,by simp;omega⟩
theorem ZRD(h:ZAC m.Kind<0):isV m=false:=by unfold isV;rw[Xj (by omega)];rfl
theorem ZSf{x:Int}(r:(ZAC m.Kind).toNat<=i)(o:(fs m)[i]?=some x)(h0:x≠0):isV m=false:=by unfold isV;rw[Ys];right;rw[List.all_eq_false];refine⟨x,?_,by simpa using h0⟩;refine Xn (i:=i-(ZAC m.Kind).toNat) ?_;rw[Wr,show (ZAC m.Kind).toNat+(i-(ZAC m.Kind).toNat)=i by omega];exact o
theorem ZOw(h0:0<=ZAC m.Kind)(h:∀ (i:Nat) (x:Int),(ZAC m.Kind).toNat<=i->i<6->(fs m)[i]?=some x->x=0):isV m=true:=by unfold isV;rw[XB h0,Wq,Wn];intro x w;obtain⟨j,o⟩:=Ya w;rw[Wr]at o;have r:=(Xi.1 o).1;have:=h _ x (VF _ _) r o;simpa using this
theorem ZXw(o:On h l)(r:∀ h',On h' l->Q (isV m) h'):cx 129 [ZAk.enc m] cB h Q:=by
 refine c129 ?_;refine ZH o λk1 A I=>?_;have r:=r A I.tail;refine ZL (x:=m.Kind) I 0 rfl rfl ?_;refine ZNA ?_;have X:=ZBi m.Kind;refine ZG (λE=>by rw[ZRD E]at r;exact r) λE=>?_;generalize B:ZAC m.Kind=n at E X;obtain⟨n,rfl⟩:∃ k:Nat,n=k:=⟨n.toNat,by omega⟩
 refine⟨by omega,by omega,?_⟩;rw[XD];have r0:Row ci (ob k1 [vi m.Kind,vi m.F_0,vi m.F_1,vi m.F_2,vi m.F_3,vi m.F_4,vi m.F_5] 59) ⟨some ⟨k1,1,none⟩,6,6⟩ (fs m):=⟨rfl,ZBI rfl⟩
 have rc:=r0.cut (k:=n) (m:=6) (cap':=6-n) (by omega) (by rw[ZEH];omega) (by rw[ZEH];exact Xc 6) rfl (z:=1) rfl;rw[XU (by rw[XN,ZEH];omega)]at rc;refine Zc (λz h'=>∃ i:Nat,z=i/\i<=6-n/\(∀ (j:Nat) (x:Int),n<=j->j<n+i->(fs m)[j]?=some x->x=0)/\h'=A) (λz=>6-n-z.toNat) ⟨0,rfl,Xh _,λj x A L=>by omega,rfl⟩ ?_;rintro J z h' w ⟨i,rfl,V,M,rfl⟩
 refine ZG (λW=>?_) λO=>?_
 .have R:n+i<6:=by omega
  have G:(fs m)[n+i]?=some (fs m)[n+i]:=Xa (by rw[ZEH];exact R);have H:((fs m).drop n)[i]?=some (fs m)[n+i]:=by rw[Wr];exact G
  refine ZN rc (Xb i) (by rw[XN,ZEH];omega) λa N=>ZQ rc (I.get (i:=0) rfl) rfl N (i:=i) H (by simp) ?_;refine ZD (λF=>?_) λD=>?_
  .rw [ZSf (i:=n+i) (by rw[B];omega) G (by simpa using F)]at r;exact r
  .refine w _ _ ⟨i+1,Z1 (by omega),by omega,λj x A L C=>?_,rfl⟩ (by rw[Z1 (by omega)];omega);by_cases U:j<n+i
   .exact M j x A U C
   .rw [show j=n+i by omega,G]at C;cases C;simpa using D
 .have:isV m=true:=ZOw (by rw[B];omega) λi x A L C=>M i x (by rw[B]at A;omega) (by omega) C;rw[this]at r;exact r
theorem ZXR(o:On h l)(r:∀ h',On h' l->Q (isV m) h'):cx 28 [ZAk.enc m] cB h Q:=by
 refine c28 ?_;refine ZOX o λA V=>?_;have r:=r A V;have W:=ZBi m.Kind;have L:ZQq (ZAC m.Kind) 0=((ZAC m.Kind).toNat:Int):=by unfold ZQq;split<;>omega
 rw[L];refine Zc (λz h'=>∃ i:Nat,z=i/\(ZAC m.Kind).toNat<=i/\i<=6/\(∀ (j:Nat) (x:Int),(ZAC m.Kind).toNat<=j->j<i->(fs m)[j]?=some x->x=0)/\h'=A) (λz=>6-z.toNat) ⟨(ZAC m.Kind).toNat,rfl,Xc _,by omega,λj x A G=>by omega,rfl⟩ ?_;rintro J z h' w ⟨i,rfl,F,U,I,rfl⟩
 refine ZG (λD=>?_) λN=>?_
 .have O:i<6:=by omega
  obtain⟨x,H,M⟩:=ZXC m O;refine⟨Xb i,D,ZTa (n:=x) (by rw[XD];exact M) ?_⟩;refine ZD (λE=>?_) λC=>?_
  .rw [ZSf F H (by simpa using E)]at r;exact r
  .refine w _ _ ⟨i+1,Z1 (by omega),by omega,by omega,λj y A G B=>?_,rfl⟩ (by rw[Z1 (by omega)];omega);by_cases R:j<i
   .exact I j y A R B
   .rw [show j=i by omega,H]at B;cases B;simpa using C
 .by_cases h0:0<=ZAC m.Kind
  .rw [ZOw h0 λi x A G B=>I i x A (by omega) B]at r;rw[show decide (ZAC m.Kind>=0)=true from XB h0];exact r
  .rw [ZRD (by omega)]at r;rw[show decide (ZAC m.Kind>=0)=false from Xj (by omega)];exact r
def ZDt(x:ZY):Msg:=⟨x.Msg_Kind,x.Msg_F_0,x.Msg_F_1,x.Msg_F_2,x.Msg_F_3,x.Msg_F_4,x.Msg_F_5⟩
def okF(x:ZY):Bool:=isV (ZDt x)&&decide (0<=x.Seq)
def ZIm(x:ZY):List Int:=x.Seq::x.Msg_Kind::(fs (ZDt x)).take (ZAC x.Msg_Kind).toNat
def ZAm(x:ZY):List Int:=bif okF x then ZEx (ZIm x) else []
def wfF(x:ZY):Prop:=∀ n∈x.Seq::x.Msg_Kind::fs (ZDt x),I64 n
theorem ZHF(h:wfF x):∀ n∈ZIm x,I64 n:=by
 intro n o;refine h n ?_;unfold ZIm at o;rcases Xm.1 o with rfl|o
 .simp
 .rcases Xm.1 o with rfl|o
  .simp
  .exact Xq _ (Xq _ (WN o))
theorem ZIW(x:ZY):(ZIm x).length<=8:=by unfold ZIm;simp only[XI,Xk];have:=ZEH (ZDt x);omega
theorem ZCo(h:wfF x):(ZAm x).length<=80:=by
 unfold ZAm;cases okF x with
 | false=>simp
 | true=>
   have:=ZFm (ZIm x) (ZHF h);have:=ZIW x;simp only[XL];omega
theorem ZDr(x:ZY):ZAD (ZAm x):=by
 unfold ZAm;cases okF x with
 | false=>intro b o;cases o
 | true=>exact ZUT _
theorem ZOS(n:Int):0<(ZKq n).length:=Ve.2 (ZXH _)
theorem ZIQ:(ZAm x).length=0↔okF x=false:=by
 unfold ZAm;cases okF x with
 | false=>simp
 | true=>
   have:=ZOS x.Seq;simp only[XL,ZIm,ZBa,Xg];refine⟨λh=>by omega,λh=>by cases h⟩
theorem ZTH(o:On h l)(U:wfF x){Q:Sl->Hp->Prop}(F:∀ s d h',On h' (d::l)->Own (cI .u8) d s (ZAm x)->Q s h'):cx 263 [ZZ.enc x] cSl h Q:=by
 refine c263 ?_;refine ZH o λk1 Z I=>?_;refine ZI (λt h'=>On h' (ob k1 (ZZ.enc x).cells.toList 161::l)/\t=!okF x) ?_ λJ E=>?_
 .rintro t D ⟨o2,rfl⟩;refine ZD (λe=>?_) λe=>?_
  .have r:okF x=false:=by simpa using e
   have:=F ⟨none,0,0⟩ Hp.emp D o2.tail.emp;unfold ZAm at this;rw[r]at this;exact this (Own.nil _)
  .have r:okF x=true:=by simpa using e
   have w:=(ZNm (m:=ZDt x) (by unfold okF at r;rw[Xf]at r;exact r.1)).1;have hr:=ZBi x.Msg_Kind;have w:0<=ZAC x.Msg_Kind:=w;refine ZL (x:=x.Seq) o2 0 rfl rfl ?_;refine ZL (x:=x.Msg_Kind) o2 0 rfl rfl ?_;refine ZL (x:=x.Msg_Kind) o2 0 rfl rfl ?_;refine ZNA ⟨w,by omega,?_⟩;refine ZH o2 λA h3 L=>?_;have X:Own ci (ob A [vi x.Seq,vi x.Msg_Kind] 2) ⟨sj A,2,2⟩ [x.Seq,x.Msg_Kind]:=ZAx (cd:=ci) (xs:=[x.Seq,x.Msg_Kind]) (rest:=[]) rfl rfl rfl;have r0:Row ci (ob k1 (ZZ.enc x).cells.toList 161) ⟨some ⟨k1,2,none⟩,6,6⟩ (fs (ZDt x)):=⟨rfl,ZBI rfl⟩
   have rc:=r0.cut (k:=0) (m:=(ZAC x.Msg_Kind).toNat) (cap':=6) (by omega) (by rw[ZEH];omega) (by rw[ZEH];exact Xc _) rfl (z:=1) rfl;rw[VY,Yz]at rc;refine ZW (g:=ob k1 (ZZ.enc x).cells.toList 161) (s:=⟨sj A,2,2⟩) (t:=⟨Zh (some ⟨k1,2,none⟩) 0 6 1,(ZAC x.Msg_Kind).toNat-0,6⟩) L rfl X (by decide) rc (L.mem (by simp)) (by unfold ZAW;rw[Xk,ZEH];simp;omega) λN M H G h5 V B=>?_;have B:Own ci N ⟨M,H,G⟩ (ZIm x):=B;have R:=ZIW x;refine ZSv (p0:=⟨M,H,G⟩) V (WQ ..) B.row (ZHF U) (by omega) λs6 C O W Y=>?_;refine F s6 C O (W.sublist (((Yy l).cons _ |>.cons _).cons_cons C)) ?_;unfold ZAm;rw[r];exact Y
 .refine ZL (x:=ZDt x) I 0 rfl rfl ?_;refine ZXw (m:=ZDt x) I λD o2=>?_;refine ZD (λe=>E _ _ ⟨o2,?_⟩) λe=>?_
  .unfold okF;rw[show isV (ZDt x)=false by simpa using e];rfl
  .refine ZL (x:=x.Seq) o2 0 rfl rfl (E _ _ ⟨o2,?_⟩);unfold okF;rw[show isV (ZDt x)=true by simpa using e,Wq,XA];simp
theorem ZPP(o:On h l)(W:wfF x){Q:Sl->Hp->Prop}(I:∀ s d h',On h' (d::l)->Own (cI .u8) d s (ZAm x)->Q s h'):cx 113 [ZZ.enc x] cSl h Q:=by
 refine c113 ?_;refine ZI (λt h'=>On h' l/\t=!okF x) ?_ λJ H=>?_
 ·rintro t F ⟨o2,rfl⟩;refine ZD (λe=>?_) λe=>?_
  .have r:okF x=false:=by simpa using e
   have:=I ⟨none,0,0⟩ Hp.emp F o2.emp;unfold ZAm at this;rw[r]at this;exact this (Own.nil _)
  .have r:okF x=true:=by simpa using e
   have C:=(ZNm (m:=ZDt x) (by unfold okF at r;rw[Xf]at r;exact r.1)).1;have hr:=ZBi x.Msg_Kind;have C:0<=ZAC x.Msg_Kind:=C;refine ZH o2 λL h3 Y=>?_;have w0:Own ci (ob L [vi x.Seq,vi x.Msg_Kind] 2) ⟨sj L,2,2⟩ [x.Seq,x.Msg_Kind]:=ZAx (cd:=ci) (xs:=[x.Seq,x.Msg_Kind]) (rest:=[]) rfl rfl rfl;refine Zc (λz h'=>∃ (i:Nat) (d:Hp),z.2=(i:Int)/\(i:Int)<=ZAC x.Msg_Kind/\On h' (d::l)/\Own ci d z.1 (x.Seq::x.Msg_Kind::(fs (ZDt x)).take i)) (λz=>6-z.2.toNat) ⟨0,_,rfl,C,Y,w0⟩ ?_;rintro J ⟨z,zi⟩ h4 again ⟨i,d,hzi,hle,o4,w⟩
   dsimp only at hzi w;subst hzi;refine ZOX o4 λh5 M=>?_;dsimp only;refine ZG (λU=>?_) λO=>?_
   .have R:i<6:=by omega
    obtain⟨y,X,N⟩:=ZXC (ZDt x) R;refine⟨Xb i,by omega,ZTa (n:=y) (by rw[XD,show 2+i*1=(1+i*1)+1 by omega];exact N) ?_⟩;refine ZH M λA G B=>?_;have r6:Row ci (ob A [vi y] 2) ⟨sj A,1,1⟩ [y]:=Zk rfl rfl;refine ZW (g:=ob A [vi y] 2) (s:=z) (t:=⟨sj A,1,1⟩) B.swap rfl w (by decide) r6 (B.mem (by simp)) (by unfold ZAW;simp;omega) λE p7 n7 m7 h7 Z w7=>?_;refine again _ _ ⟨i+1,E,Z1 (by omega),by omega,Z.sublist (((Yy l).cons _).cons_cons E),?_⟩ (by dsimp only;rw[Z1 (by omega)];omega);rw[XH,X];exact w7
   .have:i=(ZAC x.Msg_Kind).toNat:=by omega
    subst this;have w:Own ci d z (ZIm x):=w;have V:=ZIW x;refine ZVy M (WQ ..) w.row (ZHF W) (by omega) λs6 D G B w6=>?_;refine I s6 D G (B.sublist (((Yy l).cons _).cons_cons D)) ?_;unfold ZAm;rw[r];exact w6
 .refine ZG (λh0=>H _ _ ⟨o,?_⟩) λh0=>?_
  .unfold okF;rw[Xj (p:=0<=x.Seq) (by omega),Ub];rfl
  .refine ZXR (m:=ZDt x) o λF o2=>H _ _ ⟨o2,?_⟩;unfold okF;rw[XB (p:=0<=x.Seq) (by omega),Bool.and_true]
def ZET(bs:List Int):Option ZY:=
 match ZAZ bs with
 | none=>none
 | some (s,k)=>match ZAZ (bs.drop k) with
   | none=>none
   | some (t,k2)=>if s<0\/ZAC t<0 then none else (ZLl ((bs.drop k).drop k2) (ZAC t)).map λns=>mkF s (mkM t ns)
def ZKv:ZY:=⟨0,0,0,0,0,0,0,0⟩
def ZQM(bs:List Int):ZY×Int:=
 match ZET bs with
 | none=>(ZKv,2)
 | some x=>(x,0)
theorem ZDS(h:ZET bs=none):ZQM bs=(ZKv,2):=by unfold ZQM;rw[h]
theorem ZGF(h:ZET bs=some x):ZQM bs=(x,0):=by unfold ZQM;rw[h]
theorem ZSs(h:ZAZ bs=none):ZET bs=none:=by unfold ZET;rw[h]
theorem ZTA{k:Nat}(h:ZAZ bs=some (s,k))(o:ZAZ (bs.drop k)=none):ZET bs=none:=by unfold ZET;rw[h];dsimp only;rw[o]
theorem ZNr{k:Nat}(h:ZAZ bs=some (s,k))(o:ZAZ (bs.drop k)=some (t,k2)):ZET bs=if s<0\/ZAC t<0 then none else (ZLl ((bs.drop k).drop k2) (ZAC t)).map λns=>mkF s (mkM t ns):=by
 conv=>lhs;unfold ZET
 rw[h];dsimp only;rw[o]
theorem ZO2{k:Nat}(h:ZAZ bs=some (s,k))(o:ZAZ (bs.drop k)=some (t,k2))(r:0<=n):ZLl bs (2+n)=(ZLl ((bs.drop k).drop k2) n).map λns=>s::t::ns:=by unfold ZLl;rw[Xd (by omega),Xd (by omega),show (2+n).toNat=n.toNat+1+1 by omega,ZBf h,ZBf o,Option.map_map];rfl
variable {b:Nat}
theorem ZZD{s:Sl}{xs:List Int}{n:Nat}(o:On h (ob b vs e::l))(r:Row ci g s xs)(E:g.sub h)(F:n=s.len)(A:n<=len)(w:i+xs.length<=vs.length){K:Int->Hp->Prop}(B:∀ h',On h' (ob b (ZE9 vs i (xs.map λx=>vi x)) e::l)->K (n:Nat) h'):ZBN ci (some ⟨b,i,none⟩) len s.a n h K:=by
 unfold ZBN;have hl:=r.1;rw[Yo A];have e1:ZO ci xs=xs.map λx=>vi x:=by
  clear B r w hl;induction xs with
  | nil=>rfl
  | cons x xs G=>rw[ZAc,G];rfl
 have D:ZCS ci s.a s.len h λys=>match some (⟨b,i,none⟩:Addr) with
  | some C=>h.may C (n*ci.n)/\K (n:Nat) (h.wrs C 0 (ZO ci ys))
  | none=>K (n:Nat) h:=by
  refine ZC5 r E ⟨?_,?_⟩
  .refine Hp.sub_may (o.2 _ (by simp)) (ZBT (ZJj b vs e) (by simp;omega) (by intro k _ _;omega))
  .have:=o.wrs (ZJj b vs e) (i:=i) (vs:=ZO ci xs) (by rw[e1,We];exact w)
   rw[e1]at this⊢
   unfold ob at this B
   rw[ZIB]at this
   exact B _ this
 rw[F]at D⊢;exact D
theorem ZFX{v:Value}(o:On h (ob k2 [v] 192::ob k1 vs 161::l))(w:vs.length=8){Q:ZY×Int->Hp->Prop}(C:∀ h',On h' l->Q (ZKv,2) h'):
 ZB0 TP 191 [vp (sj k1),vp (sj k2)] (some (.iface 293 (.agg #[]))) h λr=>
  ZC ZZ ⟨k1,0,none⟩ r λF=>ZC ci ⟨k2,0,none⟩ r λD=>Q (F,D) r:=by
 refine c191_1 ?_;unfold F191_1;refine ZI (λ_ h'=>h'=h) ?_ λJ B=>B _ _ rfl;rintro _ h' rfl;refine ZX (vs':=(ZZ.enc ZKv).cells.toList) (cd:=ZZ) (i:=0) (x:=ZKv) o.swap rfl ?_ (by rw[w];exact Xc 8) λG E=>?_
 .match vs,w with
  | [_,_,_,_,_,_,_,_],_=>rfl
 refine ZX (vs':=[vi 2]) (cd:=ci) (i:=0) (x:=(2:Int)) E.swap rfl rfl (Xc 1) λA o2=>?_;refine ZL (x:=ZKv) o2 1 rfl rfl ?_;refine ZL (cd:=ci) (x:=(2:Int)) o2 0 rfl rfl ?_;exact C A o2.tail.tail
theorem ZOg(C:g.sub h)(r:Row (cI .u8) g p0 bs)(B:ZAD bs)(o:bs.length<=p0.cap)(hl:bs.length<=1000000){Q:Int×Sl->Hp->Prop}(D:∀ v k,ZAZ bs=some (v,k)->Q (v,⟨Zh p0.a k p0.cap 1,p0.len-k,p0.cap-k⟩) h)(E:ZAZ bs=none->S (.iface 293 (.agg #[])) h):
 ZE5 TP 192 [Value.slice p0.a p0.len p0.cap] (ZV [ci,cSl]) h Q S:=by
 refine c192 ?_;unfold F192;refine ZOr C r B o hl ?_;cases w:ZAZ bs with
 | none=>
   rw[ZDv w];refine ZI (λ_ _=>False) (λ_ _ h=>h.elim) λJ A=>?_;exact Zf rfl (E w)
 | some x=>
   obtain⟨v,k⟩:=x;obtain⟨_,_,_,F,_⟩:=ZCK B w;rw[ZFH w];refine ZI (λ_ h'=>h'=h) ?_ λJ A=>ZU rfl (A _ _ rfl);rintro _ h' rfl;refine⟨Xb k,by have:=r.1;dsimp only;omega,?_⟩;rw[show ((v,(k:Int),true).2.1).toNat=k by simp];exact D v k w
theorem Zac(s t:Int)(h:ns.length<=6):ZE9 (ZZ.enc ⟨s,t,0,0,0,0,0,0⟩).cells.toList 2 (ns.map λx=>vi x)=(ZZ.enc (mkF s (mkM t ns))).cells.toList:=by
 match ns,h with
 | [],_=>rfl
 | [_],_=>rfl
 | [_,_],_=>rfl
 | [_,_,_],_=>rfl
 | [_,_,_,_],_=>rfl
 | [_,_,_,_,_],_=>rfl
 | [_,_,_,_,_,_],_=>rfl
theorem ZOC(o:On h l)(R:g∈l)(r:Row (cI .u8) g p0 bs)(H:ZAD bs)(B:bs.length<=p0.cap)(hl:bs.length<=1000000){Q:ZY×Int->Hp->Prop}(L:∀ h',On h' l->Q (ZQM bs) h'):
 cx 116 [Value.slice p0.a p0.len p0.cap] (ZV [ZZ,ci]) h Q:=by
 refine c116 ?_;unfold F116;refine ZH o λk1 h1 o1=>?_;refine ZH o1 λk2 Z o2=>?_;refine ZOg (o2.mem (by simp[R])) r H B hl (λs k D=>?_) λD=>?_
 ·obtain⟨_,_,_,hk,_⟩:=ZCK H D;refine ZOg (p0:=⟨Zh p0.a k p0.cap 1,p0.len-k,p0.cap-k⟩) (o2.mem (by simp[R])) (ZN9 r B hk) (H.drop k) (by simp;omega) (by simp;omega) (λt U M=>?_) λM=>?_
  ·have w:=ZNr D M;have hr:=ZBi t;refine ZNA ?_;refine ZI (λ_ h'=>h'=Z/\0<=s/\0<=ZAC t) ?_ λJ2 N=>?_
   ·rintro _ h5 ⟨rfl,h0,I⟩;rw[Xd (by omega)]at w;dsimp only;rw[w64 (by omega) (by omega)];refine ZaH o2 (g:=g) (by simp[R]) r H B hl (λhn h6 V=>?_) λns A s6 Y h6 V X=>?_
    .refine ZI (λ_ _=>False) (λ_ _ h=>h.elim) λJ hJ=>Zf rfl ?_;rw[ZO2 D M I,Option.map_eq_none_iff]at hn;rw[hn]at w;exact ZFX V rfl λh' E=>by have:=L h' E;rw[ZDS w]at this;exact this
    ·rw[ZO2 D M I,YS]at A;obtain⟨ns,A,rfl⟩:=A;rw[A]at w;have hlen:ns.length=(ZAC t).toNat:=by unfold ZLl at A;rw[Xd (by omega)]at A;exact(ZJo _ _ _ ((H.drop k).drop U) A).1
     have hsl:s6.len=ns.length+2:=X.1;have C:ns.length+2<=s6.cap:=X.le_cap (by decide);refine ZI (λ_ h'=>h'=h6) ?_ λJ hJ=>ZU rfl (hJ _ _ rfl);rintro _ h7 rfl;have o7:On h7 (ob k1 [vi 0,vi 0,vi 0,vi 0,vi 0,vi 0,vi 0,vi 0] 161::ob k2 [vi 0] 192::Y::l):=V.pick [2,1,0] 3;refine ZX (vs':=(ZZ.enc ⟨s,t,0,0,0,0,0,0⟩).cells.toList) (cd:=ZZ) (i:=0) (x:=(⟨s,t,0,0,0,0,0,0⟩:ZY)) o7 rfl rfl (Xc 8) λh8 o8=>?_;refine⟨by omega,by dsimp only;omega,?_⟩;have rc:=X.row.cut (k:=2) (m:=ns.length+2) (cap':=0) (by omega) (Xc (ns.length+2)) C rfl (z:=1) rfl
     have rc:Row ci Y ⟨Zh s6.a 2 s6.cap 1,ns.length,0⟩ ns:=by
          have e:((s::t::ns).drop 2).take (ns.length+2-2)=ns:=by show ns.take (ns.length+2-2)=ns;exact XU (by omega)
          rw[e]at rc;exact rc
     refine ZZD (s:=⟨Zh s6.a 2 s6.cap 1,ns.length,0⟩) (n:=s6.len-2) o8 rc (o8.mem (by simp)) (by dsimp only;omega) (by omega) (by show 2+ns.length<=8;omega) λh9 W=>?_;rw[Zac s t (by omega)]at W;refine ZL (x:=mkF s (mkM t ns)) W 0 rfl rfl ?_;refine ZX (vs':=(ZZ.enc (mkF s (mkM t ns))).cells.toList) (cd:=ZZ) (i:=0) (x:=mkF s (mkM t ns)) W rfl rfl (Xc 8) λha oa=>?_;refine ZX (vs':=[vi 0]) (cd:=ci) (i:=0) (x:=(0:Int)) oa.swap rfl rfl (Xc 1) λO F=>?_;refine c191_0 ?_;unfold F191_0;refine ZL (x:=mkF s (mkM t ns)) F 1 rfl rfl ?_;refine ZL (cd:=ci) (x:=(0:Int)) F 0 rfl rfl ?_;have:=L O F.tail.tail.tail;rw[ZGF w]at this;exact this
   .refine ZI (λb h'=>h'=Z/\(b=true->s<0\/ZAC t<0)/\(b=false->0<=s/\0<=ZAC t)) ?_ λJ3 G=>?_
    .rintro b h' ⟨rfl,hT,hF⟩;refine ZD (λe=>?_) λe=>N _ _ ⟨rfl,hF e⟩;rw[Xe (hT e)]at w;exact ZFX o2 rfl λh' E=>by have:=L h' E;rw[ZDS w]at this;exact this
    .refine ZG (λh0=>G _ _ ⟨rfl,λ_=>.inl h0,λh=>(by cases h)⟩) λh0=>G _ _ ⟨rfl,λh=>.inr (Ww h),λh=>?_⟩;have:=Vm h;dsimp only at h0 this;omega
  .have w:=ZTA D M;exact ZFX o2 rfl λh' E=>by have:=L h' E;rw[ZDS w]at this;exact this
 .have w:=ZSs D;exact ZFX o2 rfl λh' E=>by have:=L h' E;rw[ZDS w]at this;exact this
theorem ZS7:∀ (ns:List Int) (n:Nat) (l:List Int),(∀ x∈ns,I64 x)->ZMY n (ZEx ns)=some l->l=ns/\n=ns.length
 | [],0,l,_,h=>by
   have h:some []=some l:=h;cases h;exact⟨rfl,rfl⟩
 | [],n+1,l,_,h=>by
   rw[ZE8 rfl]at h;cases h
 | a::t,0,l,hn,h=>by
   have r:=ZOS a;rw[ZBa]at h;cases o:ZKq a++ZEx t with
   | nil=>rw[List.append_eq_nil_iff]at o;rw[o.1]at r;cases r
   | cons x y=>rw[o]at h;cases h
 | a::t,n+1,l,hn,h=>by have w:=ZEp (hn a (by simp)) (ZEx t);rw[ZBa,ZBf w,XF (Xc _),XY,XV,YS]at h;obtain⟨l',A,rfl⟩:=h;obtain⟨rfl,rfl⟩:=ZS7 t n l' (λx B=>hn x (by simp[B])) A;exact⟨rfl,rfl⟩
theorem ZRc(h:∀ x∈s::k::ns,I64 x):ZET (ZEx (s::k::ns))=if 0<=s/\(ns.length:Int)=ZAC k then some (mkF s (mkM k ns)) else none:=by
 have w:=ZEp (h s (by simp)) (ZEx (k::ns));have A:=ZEp (h k (by simp)) (ZEx ns);have e1:(ZEx (s::k::ns)).drop (ZKq s).length=ZEx (k::ns):=by rw[ZBa,XF (Xc _),XY,XV]
 have e2:(ZEx (k::ns)).drop (ZKq k).length=ZEx ns:=by rw[ZBa,XF (Xc _),XY,XV]
 have o:∀ x∈ns,I64 x:=λx D=>h x (by simp[D]);rw[<-ZBa]at w A;rw[ZNr w (by rw[e1];exact A),e1,e2];by_cases B:s<0\/ZAC k<0
 .rw [Xe B,Xd (by omega)]
 ·rw[Xd B];by_cases hl:(ns.length:Int)=ZAC k
  .rw [Xe ⟨by omega,hl⟩,ZWP o hl.symm];rfl
  ·rw[Xd (λC=>hl C.2)];cases r:ZLl (ZEx ns) (ZAC k) with
   | none=>rfl
   | some l=>
     unfold ZLl at r;rw[Xd (by omega)]at r;obtain⟨_,e⟩:=ZS7 ns _ l o r;omega
theorem ZFN(A:wfF x)(o:okF x=true):ZET (ZAm x)=some x:=by unfold ZAm;rw[o,XL];have w:=o;unfold okF at o;rw[Xf,Xw]at o;obtain⟨h0,r⟩:=ZNm o.1;have h0:0<=ZAC x.Msg_Kind:=h0;have B:=ZBi x.Msg_Kind;unfold ZIm;rw[ZRc (ZHF A),Xe ⟨o.2,by rw[Xk,ZEH];omega⟩];have r:mkM x.Msg_Kind ((fs (ZDt x)).take (ZAC x.Msg_Kind).toNat)=ZDt x:=r;rw[r];rfl
structure SS where
 beat:Nat
 up:Bool
 want:Nat
 all:List ZY
 asked:Nat
 sent:Nat
 heard:Nat
instance (n:Nat) (seq:Int):Decidable (ZEJ n seq):=by unfold ZEJ;exact inferInstance
def ZFU(k v:Int):ZY:=⟨0,k,v,0,0,0,0,0⟩
def ZKP:Msg:=⟨0,0,0,0,0,0,0⟩
def ZPA(s:SS)(v:Int):SS×List ZY:=
 if ZEJ s.all.length v then ({s with up:=false},[]) else ({s with up:=true,asked:=0,sent:=0,heard:=0},ZFU 1 s.want::s.all.drop (v-1).toNat)
def ZYG(s:SS)(k v:Int):SS×List ZY×Bool:=
 if k=3 then ({s with sent:=0},[ZFU 2 0],false)
 else if k=4 then
  if ZEJ s.all.length v then ({s with up:=false},[ZFU 5 0],true)
  else ({s with sent:=if (s.all.drop (v-1).toNat).length=0 then s.sent else 0},s.all.drop (v-1).toNat,false)
 else if k=5 then ({s with up:=false},[],true)
 else (s,[],false)
def ZGA(s:SS)(x:ZY):SS×List ZY×Msg×Bool:=
 if ¬(6<=x.Msg_Kind/\x.Msg_Kind<=17) then (s,[],ZKP,false)
 else if x.Seq=s.want then ({s with want:=s.want+1},[],ZDt x,true)
 else if (s.want:Int)<x.Seq/\s.asked≠s.want then ({s with asked:=s.want,sent:=0},[ZFU 4 s.want],ZKP,false)
 else (s,[],ZKP,false)
def Zt(s:SS)(x:ZY):SS×List ZY×Msg×Bool×Bool:=
 if x.Seq=0/\x.Msg_Kind=1 then ((ZPA s x.Msg_F_0).1,(ZPA s x.Msg_F_0).2,ZKP,false,s.up&&!(ZPA s x.Msg_F_0).1.up)
 else if s.up=false then (s,[],ZKP,false,false)
 else if x.Seq=0 then ((ZYG {s with heard:=0} x.Msg_Kind x.Msg_F_0).1,(ZYG {s with heard:=0} x.Msg_Kind x.Msg_F_0).2.1,ZKP,false,(ZYG {s with heard:=0} x.Msg_Kind x.Msg_F_0).2.2)
 else ((ZGA {s with heard:=0} x).1,(ZGA {s with heard:=0} x).2.1,(ZGA {s with heard:=0} x).2.2.1,(ZGA {s with heard:=0} x).2.2.2,false)
def ZCh(s:SS):SS×List ZY×Bool:=
 if s.up=false then (s,[],false)
 else if s.heard+1=3*s.beat then ({s with up:=false,sent:=s.sent+1,heard:=s.heard+1},[ZFU 5 0],true)
 else if s.heard+1=2*s.beat then ({s with sent:=0,heard:=s.heard+1},[ZFU 3 0],false)
 else if s.beat<=s.sent+1 then ({s with sent:=0,heard:=s.heard+1},[ZFU 2 0],false)
 else ({s with sent:=s.sent+1,heard:=s.heard+1},[],false)
def Zbd(k:Int):Bool:=decide (1<=k/\k<=5)
def ZAt(s:SS)(m:Msg):SS×ZY×Bool:=
 if isV m=false\/Zbd m.Kind=true then (s,ZKv,false)
 else ({s with all:=s.all++[mkF (s.all.length+1:Nat) m],sent:=if s.up=true then 0 else s.sent},mkF (s.all.length+1:Nat) m,s.up)
def ZM8(s:SS):SS×Bool:=({s with up:=false},s.up)
def ZZA(n:Nat):SS:=⟨n,false,1,[],0,0,0⟩
def ZBO(beat:Nat)(up:Bool)(want:Nat)(kp:Option Addr)(a b c:Int):List Value:=[vi beat,.bool up,vi want,vp kp,vi a,vi b,vi c]
def IsS(K:Option Addr->List ZY->Hp->Prop)(lay:SS->Nat×Nat×Nat)(e:TypeId)(p:Option Addr)(s:SS)(c:Hp):Prop:=
 ∃ (b:Nat) (kp:Option Addr) (ck:Hp) (x:Nat×Nat×Nat),p=sj b/\On c [ob b (ZBO s.beat s.up s.want kp x.1 x.2.1 x.2.2) e,ck]/\K kp s.all ck/\(s.up=true->x=lay s)
def ZOv(s:SS):Nat×Nat×Nat:=(s.asked,s.sent,s.heard)
def ZB7:=IsS ZCb ZOv 276
variable {s:SS}{K:Option Addr->List ZY->Hp->Prop}{lay:SS->Nat×Nat×Nat}
theorem ZHY(x:Nat×Nat×Nat)(o:On h (ob b (ZBO s.beat s.up s.want kp x.1 x.2.1 x.2.2) e::ck::l))(k:K kp s.all ck)(r:s.up=true->x=lay s):∃ c,On h (c::l)/\IsS K lay e (sj b) s c:=by
 obtain⟨w,o2⟩:=On.joined (cs:=[_,ck]) (l:=l) o;exact⟨_,w,b,kp,ck,x,rfl,o2,k,r⟩
theorem ZVW(w:IsS K lay e p s c):∃ b,p=sj b:=by obtain⟨b,_,_,_,h,_⟩:=w;exact⟨b,h⟩
theorem ZHz{Q:ZY->Hp->Prop}(o:Q (ZFU k v) h):cx 261 [vi k,vi v] ZZ h Q:=by refine c261 ?_;exact⟨by decide,by decide,o⟩
theorem Zbz(o:Q (Zbd k) h):cx 318 [vi k] cB h Q:=by
 unfold Zbd at o;refine c318 ?_;refine ZG (λe=>?_) λe=>?_
 .rw [XE.2 (show (1<=k/\k<=5)↔k<=5 by omega)]at o;exact o
 .rw [Xj (by omega)]at o;exact o
theorem ZZ1(o:Q (decide (6<=k/\k<=17)) h):cx 128 [vi k] cB h Q:=by
 refine c128 ?_;refine ZG (λe=>?_) λe=>?_
 .rw [XE.2 (show (6<=k/\k<=17)↔k<=17 by omega)]at o;exact o
 .rw [Xj (by omega)]at o;exact o
theorem ZF2(o:On h l){K:Nat->Hp->Prop}(r:∀ k d h',On h' (d::l)->Row ZZ d ⟨sj k,1,1⟩ [x]->Own ZZ d ⟨sj k,1,1⟩ [x]->K k h'):ZJ (Obj.cells (ZZ.enc x).cells 161) h K:=by refine ZH o λk h' w=>?_;exact r k _ h' w (Zk (cd:=ZZ) (xs:=[x]) rfl rfl) (ZAx (cd:=ZZ) (xs:=[x]) (rest:=[]) rfl rfl rfl)
theorem ZWl(o:On h l){Q:Option Addr->Hp->Prop}(h0:n<1\/1000<n->Q none h)(w:1<=n->n<=1000->∀ p c h',On h' (c::l)->ZB7 p (ZZA n.toNat) c->Q p h'):cx 104 [vi n] cP h Q:=by
 refine c104 ?_;refine ZI (λt h'=>h'=h/\(t=true->n<1\/1000<n)/\(t=false->1<=n/\n<=1000)) ?_ λJ r=>?_
 .rintro t h' ⟨rfl,C,B⟩;refine ZD (λe=>h0 (C e)) λe=>?_;obtain⟨a,b⟩:=B e;refine ZYu o λkp ck H o2 G=>?_;refine ZH o2 λI A D=>?_;obtain⟨m,rfl⟩:∃ m:Nat,n=m:=⟨n.toNat,by omega⟩
  obtain⟨c,E,F⟩:=ZHY (s:=ZZA m) (lay:=ZOv) (K:=ZCb) (0,0,0) D G (λh=>by cases h);exact w a b _ c A E F
 .refine ZG (λe=>r _ _ ⟨rfl,λ_=>.inl e,λh=>(by cases h)⟩) λe=>r _ _ ⟨rfl,λh=>.inr (Ww h),λh=>?_⟩;have h:=Vm h;omega
theorem ZZK(o:c.sub h)(w:ZB7 p s c)(r:Q s.up h):cx 111 [vp p] cB h Q:=by obtain⟨b,kp,ck,x,rfl,A,C,B⟩:=w;refine c111 ?_;dsimp only[ZM];exact Zf rfl ⟨s.up,Hp.sub_rds (Hp.sub_trans (A.get (i:=0) rfl) o) (ZBI rfl),r⟩
theorem ZO4(o:On h (c::l))(w:ZB7 p s c)(A:∀ r h',On h' (r::l)->ZB7 p (ZM8 s).1 r->Q (ZM8 s).2 h'):cx 109 [vp p] cB h Q:=by
 have w':=w;obtain⟨b,kp,ck,x,rfl,E,G,H⟩:=w;refine c109 ?_;dsimp only[ZM];have os:=o.split E;unfold ZM8 at A;refine ZI (λt h'=>h'=h/\t=!s.up) ?_ λJ C=>ZU rfl (ZL (x:=s.up) os 0 rfl rfl (C _ _ ⟨rfl,rfl⟩));rintro t h' ⟨rfl,rfl⟩;refine ZD (λe=>?_) λe=>?_
 .have e:s.up=false:=by simpa using e
  have:=A c h' o;rw[e]at this;obtain⟨beat,up,want,all,asked,sent,heard⟩:=s;cases e;exact this w'
 .have e:s.up=true:=by simpa using e
  refine ZX (cd:=cB) (i:=1) (x:=false) (vs':=ZBO s.beat false s.want kp x.1 x.2.1 x.2.2) os rfl rfl (by show 1+1<=7;omega) λB D=>?_;obtain⟨r,o2,F⟩:=ZHY (s:={s with up:=false}) (lay:=ZOv) (K:=ZCb) (e:=276) x D G (λh=>by cases h);have:=A r B o2 F;rw[e]at this;exact this
theorem ZRw{all:List ZY}(o:On h (ob b (ZBO beat up want kp a4 a5 a6) 276::ck::l))(Y:ZCb kp all ck)(hl:all.length<=1000000000)(G:I64 v){Q:Sl×Bool->Hp->Prop}(h0:ZEJ all.length v->∀ h',On h' (ob b (ZBO beat false want kp a4 a5 a6) 276::ck::l)->Q (⟨none,0,0⟩,false) h')(r:¬ZEJ all.length v->∀ sl d h',On h' (ob b (ZBO beat true want kp 0 a5 0) 276::ck::d::l)->Row ZZ d sl (ZFU 1 want::all.drop (v-1).toNat)->Q (sl,true) h'):
 cx 265 [vp (sj b),vi v] (ZV [cSl,cB]) h Q:=by
 refine c265 ?_;dsimp only[ZM];refine ZL (x:=kp) o 0 rfl rfl ?_;refine ZPD o.swap Y hl G (λw=>?_) λw s d E o2 V=>?_
 .refine ZX (cd:=cB) (i:=1) (x:=false) (vs':=ZBO beat false want kp a4 a5 a6) o rfl rfl (by show 1+1<=7;omega) λr M=>?_;exact Zf rfl (h0 w r M)
 .have A:On E (ob b (ZBO beat up want kp a4 a5 a6) 276::ck::d::l):=o2.pick [2,1,0] 3;refine ZX (cd:=cB) (i:=1) (x:=true) (vs':=ZBO beat true want kp a4 a5 a6) A rfl rfl (by show 1+1<=7;omega) λh3 N=>?_;refine ZU rfl ?_;refine ZX (cd:=ci) (i:=6) (x:=(0:Int)) (vs':=ZBO beat true want kp a4 a5 0) N rfl rfl (by show 6+1<=7;omega) λh4 O=>?_;refine ZX (cd:=ci) (i:=4) (x:=(0:Int)) (vs':=ZBO beat true want kp 0 a5 0) O rfl rfl (by show 4+1<=7;omega) λh5 B=>?_;refine ZL (cd:=ci) (x:=(want:Int)) B 0 rfl rfl ?_;refine ZHz ?_;refine ZF2 (x:=ZFU 1 want) B λH Z h6 C r6 W=>?_;refine ZW (g:=d) (s:=⟨sj H,1,1⟩) (t:=s) C rfl W (by decide) V.row (C.mem (by simp)) (by unfold ZAW;simp;omega) λD U L I F R X=>?_;exact r w ⟨U,L,I⟩ D F (R.pick [1,2,0] 4) X.row
theorem ZUt(o:On h (ob b (ZBO s.beat true s.want kp s.asked s.sent s.heard) 276::ck::l))(Y:ZCb kp s.all ck)(N:s.up=true)(hl:s.all.length<=1000000000)(V:s.want<=1000000)(U:I64 x.Msg_F_0)(D:x.Seq≠0){Q:Sl×Msg×Bool->Hp->Prop}(r:∀ sl d h',On h' (ob b (ZBO s.beat true (ZGA s x).1.want kp (ZGA s x).1.asked s.sent s.heard) 276::ck::d::l)->Row ZZ d sl (ZGA s x).2.1->Q (sl,(ZGA s x).2.2.1,(ZGA s x).2.2.2) h'):
 cx 266 [vp (sj b),ZZ.enc x] (ZV [cSl,ZAk,cB]) h Q:=by
 refine c266 ?_;dsimp only[ZM];have E:On h (ob b (ZBO s.beat true s.want kp s.asked s.sent s.heard) 276::ck::Hp.emp::l):=o.emp.pick [1,2,0] 3;refine ZU (by simpa using D) ?_;refine ZZ1 ?_;unfold ZGA at r;by_cases A:6<=x.Msg_Kind/\x.Msg_Kind<=17
 ·rw[Xd (by simpa using A)]at r;refine ZU (by rw[XB A];rfl) ?_;refine ZL (cd:=ci) (x:=(s.want:Int)) o 0 rfl rfl ?_;by_cases w:x.Seq=(s.want:Int)
  .rw [Xe w]at r;refine Zf (by simpa using w) ?_;refine ZL (cd:=ci) (x:=(s.want:Int)) o 0 rfl rfl ?_;rw[Z1 (by omega)];refine ZX (cd:=ci) (i:=2) (x:=((s.want+1:Nat):Int)) (vs':=ZBO s.beat true (s.want+1) kp s.asked s.sent s.heard) E rfl rfl (by show 2+1<=7;omega) λF B=>?_;exact r ⟨none,0,0⟩ Hp.emp F B (Row.nil _)
  .rw [Xd w]at r;refine ZU (by simpa using w) ?_;refine ZI (λt h'=>h'=h/\t=decide ((s.want:Int)<x.Seq/\s.asked≠s.want)) ?_ λJ G=>?_
   .rintro t h' ⟨rfl,rfl⟩;refine ZG (λC=>?_) λC=>?_
    .rw [Xe C]at r;refine ZL (cd:=ci) (x:=(s.want:Int)) o 0 rfl rfl ?_;refine ZX (cd:=ci) (i:=4) (x:=(s.want:Int)) (vs':=ZBO s.beat true s.want kp s.want s.sent s.heard) o rfl rfl (by show 4+1<=7;omega) λF B=>?_;refine ZL (cd:=ci) (x:=(s.want:Int)) B 0 rfl rfl ?_;refine ZHz ?_;refine ZF2 (x:=ZFU 4 s.want) B λW H I O R X=>?_;exact r _ H I (O.pick [1,2,0] 3) R
    .rw [Xd C]at r;exact r ⟨none,0,0⟩ Hp.emp h' E (Row.nil _)
   .refine ZL (cd:=ci) (x:=(s.want:Int)) o 0 rfl rfl ?_;refine ZG (λL=>?_) λM=>?_
    .refine ZL (cd:=ci) (x:=(s.asked:Int)) o 0 rfl rfl ?_;refine ZL (cd:=ci) (x:=(s.want:Int)) o 0 rfl rfl ?_;refine G _ _ ⟨rfl,?_⟩;rw[XA];simp only[bne_iff_ne,ne_eq,Xw];omega
    .exact G _ _ ⟨rfl,(Xj (by omega)).symm⟩
 .rw [Xe A]at r;refine Zf (by rw[Xj A];rfl) ?_;exact r ⟨none,0,0⟩ Hp.emp h E (Row.nil _)
def ZQn(s:SS)(k v:Int):SS×List ZY:=
 if k=1 then (if ZEJ s.all.length v then ({s with up:=false},[]) else ({s with up:=true,asked:=0,heard:=0},ZFU 1 s.want::s.all.drop (v-1).toNat))
 else if k=3 then (s,[ZFU 2 0])
 else if k=4 then (if ZEJ s.all.length v then ({s with up:=false},[ZFU 5 0]) else (s,s.all.drop (v-1).toNat))
 else if k=5 then ({s with up:=false},[])
 else (s,[])
def cellsOf(s:SS)(kp:Option Addr):List Value:=ZBO s.beat s.up s.want kp s.asked s.sent s.heard
theorem ZQe(o:On h (ob b (cellsOf s kp) 276::ck::l))(O:ZCb kp s.all ck)(hl:s.all.length<=1000000000)(N:I64 m.F_0){Q:Sl->Hp->Prop}(r:∀ sl d h',On h' (ob b (cellsOf (ZQn s m.Kind m.F_0).1 kp) 276::ck::d::l)->Row ZZ d sl (ZQn s m.Kind m.F_0).2->Q sl h'):
 cx 317 [vp (sj b),ZAk.enc m] cSl h Q:=by
 refine c317 ?_;dsimp only[ZM];unfold ZQn at r;have V:On h (ob b (cellsOf s kp) 276::ck::Hp.emp::l):=o.emp.pick [1,2,0] 3;by_cases w:m.Kind=1
 .rw [Xe w]at r;refine ZI (λ_ _=>False) (λ_ _ h=>h.elim) λJ D=>Zf (by simpa using w) ?_;refine⟨by decide,by decide,?_⟩;refine ZRw o O hl N (λA E o2=>?_) λA sl d E o2 W=>?_
  .rw [Xe A]at r;exact r _ Hp.emp E (o2.emp.pick [1,2,0] 3) (Row.nil _)
  .rw [Xd A]at r;exact r sl d E o2 W
 ·rw[Xd w]at r;by_cases B:m.Kind=3
  .rw [Xe B]at r;refine ZI (λ_ _=>False) (λ_ _ h=>h.elim) λJ D=>ZU (by simpa using w) (Zf (by simpa using B) ?_);refine ZHz ?_;refine ZF2 (x:=ZFU 2 0) o λR G H L M Y=>?_;exact r _ G H (L.pick [1,2,0] 3) M
  ·rw[Xd B]at r;by_cases F:m.Kind=4
   .rw [Xe F]at r;refine ZI (λ_ _=>False) (λ_ _ h=>h.elim) λJ D=>ZU (by simpa using w) (ZU (by simpa using B) (Zf (by simpa using F) ?_));refine⟨by decide,by decide,?_⟩;refine ZL (x:=kp) o 0 rfl rfl ?_;refine ZPD o.swap O hl N (λA=>?_) λA sl d E o2 X=>?_
    .rw [Xe A]at r;refine Zf rfl ?_;refine ZX (cd:=cB) (i:=1) (x:=false) (vs':=cellsOf {s with up:=false} kp) o rfl rfl (by show 1+1<=7;omega) λC I=>?_;refine ZHz ?_;refine ZF2 (x:=ZFU 5 0) I λR G H L M Y=>?_;exact r _ G H (L.pick [1,2,0] 3) M
    .rw [Xd A]at r;exact ZU rfl (r sl d E (o2.pick [2,1,0] 3) X.row)
   .rw [Xd F]at r;by_cases C:m.Kind=5
    .rw [Xe C]at r;refine ZI (λ_ h'=>On h' (ob b (cellsOf {s with up:=false} kp) 276::ck::l)) ?_ λJ D=>ZU (by simpa using w) (ZU (by simpa using B) (ZU (by simpa using F) (Zf (by simpa using C) ?_)))
     .intro _ h' U;exact r _ Hp.emp h' (U.emp.pick [1,2,0] 3) (Row.nil _)
     .refine ZX (cd:=cB) (i:=1) (x:=false) (vs':=cellsOf {s with up:=false} kp) o rfl rfl (by show 1+1<=7;omega) λC I=>?_;exact D _ _ I
    .rw [Xd C]at r;refine ZI (λ_ h'=>h'=h) ?_ λJ D=>ZU (by simpa using w) (ZU (by simpa using B) (ZU (by simpa using F) (ZU (by simpa using C) (D _ _ rfl))));rintro _ h' rfl;exact r _ Hp.emp h' V (Row.nil _)
theorem ZTx(s:SS)(x:ZY):(ZGA s x).1.beat=s.beat/\(ZGA s x).1.up=s.up/\(ZGA s x).1.all=s.all/\(ZGA s x).1.heard=s.heard/\(ZGA s x).1.sent=if (ZGA s x).2.1.length=0 then s.sent else 0:=by
 unfold ZGA;split
 .exact ⟨rfl,rfl,rfl,rfl,rfl⟩
 .split
  .exact ⟨rfl,rfl,rfl,rfl,rfl⟩
  .split
   .exact ⟨rfl,rfl,rfl,rfl,rfl⟩
   .exact ⟨rfl,rfl,rfl,rfl,rfl⟩
def Fin(s1:SS)(fs:List ZY)(t:SS):Prop:=
 s1.beat=t.beat/\s1.up=t.up/\s1.want=t.want/\s1.all=t.all/\(t.up=true->s1.asked=t.asked/\s1.heard=t.heard/\t.sent=if fs.length=0 then s1.sent else 0)
theorem ZVm(s:SS)(x:ZY)(o:s.up=true)(h0:x.Seq=0):(ZQn {s with heard:=0} x.Msg_Kind x.Msg_F_0).2=(Zt s x).2.1/\(Zt s x).2.2=(ZKP,false,!(ZQn {s with heard:=0} x.Msg_Kind x.Msg_F_0).1.up)/\Fin (ZQn {s with heard:=0} x.Msg_Kind x.Msg_F_0).1 (ZQn {s with heard:=0} x.Msg_Kind x.Msg_F_0).2 (Zt s x).1:=by
 obtain⟨beat,up,want,all,asked,sent,heard⟩:=s;have o:up=true:=o;subst o;unfold Zt ZQn;by_cases w:x.Msg_Kind=1
 .rw [Xe w,Xe (show x.Seq=0/\x.Msg_Kind=1 from ⟨h0,w⟩)];unfold ZPA;by_cases r:ZEJ all.length x.Msg_F_0
  .simp only[r,↓reduceIte];refine⟨?_,?_,?_,?_,?_,?_,?_⟩<;>first|rfl|trivial|(intro h;cases h)
  .simp only[r,↓reduceIte];refine⟨?_,?_,?_,?_,?_,?_,?_⟩<;>first|rfl|trivial|(intro _;exact⟨rfl,rfl,rfl⟩)
 ·rw[Xd w,Xd (show ¬(x.Seq=0/\x.Msg_Kind=1) from λh=>w h.2),Xd (show ¬(true=false) by simp),Xe h0];unfold ZYG;by_cases A:x.Msg_Kind=3
  .rw [Xe A,Xe A];exact⟨rfl,rfl,rfl,rfl,rfl,rfl,λ_=>⟨rfl,rfl,rfl⟩⟩
  .rw [Xd A,Xd A];by_cases B:x.Msg_Kind=4
   .rw [Xe B,Xe B];by_cases r:ZEJ all.length x.Msg_F_0
    .simp only[r,↓reduceIte];refine⟨?_,?_,?_,?_,?_,?_,?_⟩<;>first|rfl|trivial|(intro h;cases h)
    .simp only[r,↓reduceIte];refine⟨?_,?_,?_,?_,?_,?_,?_⟩<;>first|rfl|trivial|(intro _;exact⟨rfl,rfl,rfl⟩)
   .rw [Xd B,Xd B];by_cases C:x.Msg_Kind=5
    .rw [Xe C,Xe C];exact⟨rfl,rfl,rfl,rfl,rfl,rfl,λh=>by cases h⟩
    .rw [Xd C,Xd C];exact⟨rfl,rfl,rfl,rfl,rfl,rfl,λ_=>⟨rfl,rfl,rfl⟩⟩
theorem ZRI(o:On h (c::l))(w:ZB7 p s c)(hl:s.all.length<=1000000000)(hw:s.want<=1000000)(W:I64 x.Msg_F_0){Q:Sl×Msg×Bool×Bool->Hp->Prop}(hq:∀ sl A r' h',On h' (A::r'::l)->ZB7 p (Zt s x).1 A->Row ZZ r' sl (Zt s x).2.1->Q (sl,(Zt s x).2.2) h'):
 cx 184 [vp p,ZZ.enc x] (ZV [cSl,ZAk,cB,cB]) h Q:=by
 obtain⟨b,kp,ck,y,rfl,oc,M,hx⟩:=w;refine c184 ?_;dsimp only[ZM];have os:=o.split oc;have oe:On h (ob b (ZBO s.beat s.up s.want kp y.1 y.2.1 y.2.2) 276::ck::Hp.emp::l):=On.pick (l:=Hp.emp::ob b (ZBO s.beat s.up s.want kp y.1 y.2.1 y.2.2) 276::ck::l) os.emp [1,2,0] 3 (by decide) (by decide);refine ZU rfl ?_;refine ZI (λz h'=>∃ (s1:SS) (d:Hp) (y:Nat×Nat×Nat),On h' (ob b (ZBO s1.beat s1.up s1.want kp y.1 y.2.1 y.2.2) 276::ck::d::l)/\(s1.up=true->y=ZOv s1)/\s1.all=s.all/\Row ZZ d z.1 (Zt s x).2.1/\z.2=(Zt s x).2.2/\Fin s1 (Zt s x).2.1 (Zt s x).1) ?_ λJ D=>?_
 ·rintro⟨z1,z2⟩ h1 ⟨s1,d,y,o1,L,hall,r1,hz,f1,f2,f3,f4,f5⟩;dsimp only at hz r1;subst hz;rw[f1,f2,f3]at o1;have H:ZCb kp (Zt s x).1.all ck:=by rw[<-f4,hall];exact M
  refine ZI (λ_ h'=>∃ A,On h' (A::d::l)/\ZB7 (sj b) (Zt s x).1 A) ?_ λJ2 E=>?_
  .rintro _ I ⟨A,o2,w2⟩;exact hq z1 A d I o2 w2 r1
  ·have hrl:=r1.1;refine ZG (λB=>?_) λB=>?_
   ·refine ZX (cd:=ci) (i:=5) (x:=(0:Int)) (vs':=ZBO (Zt s x).1.beat (Zt s x).1.up (Zt s x).1.want kp y.1 0 y.2.2) o1 rfl rfl (by show 5+1<=7;omega) λI o2=>?_
    obtain⟨A,X,w3⟩:=ZHY (s:=(Zt s x).1) (lay:=ZOv) (K:=ZCb) (e:=276) (y.1,0,y.2.2) o2 H (λh=>by
         obtain⟨O,R,C⟩:=f5 h;have e:=L (by rw[f2];exact h);rw[e];rw[Xd (by dsimp only at B;omega)]at C;unfold ZOv;rw[O,R,C])
    exact E _ _ ⟨A,X,w3⟩
   ·obtain⟨A,X,w3⟩:=ZHY (s:=(Zt s x).1) (lay:=ZOv) (K:=ZCb) (e:=276) y o1 H (λh=>by
         obtain⟨O,R,C⟩:=f5 h;have e:=L (by rw[f2];exact h);rw[e];rw[Xe (by dsimp only at B;omega)]at C;unfold ZOv;rw[O,R,C])
    exact E _ _ ⟨A,X,w3⟩
 ·refine ZL (x:=s.up) os 0 rfl rfl ?_;refine ZD (λe=>?_) λe=>?_
  ·have e:s.up=false:=by simpa using e
   refine ZI (λt h'=>h'=h/\t=decide (x.Seq=0/\x.Msg_Kind=1)) ?_ λJ3 F=>?_
   ·rintro t h' ⟨rfl,rfl⟩;refine ZG (λV=>?_) λV=>?_
    .have r:Zt s x=((ZPA s x.Msg_F_0).1,(ZPA s x.Msg_F_0).2,ZKP,false,s.up&&!(ZPA s x.Msg_F_0).1.up):=by unfold Zt;rw[Xe V]
     refine⟨by decide,by decide,?_⟩;refine ZRw (a4:=y.1) (a5:=y.2.1) (a6:=y.2.2) os M hl W (λU I o2=>?_) λU sl d I o2 r2=>?_
     .have N:ZPA s x.Msg_F_0=({s with up:=false},[]):=by unfold ZPA;rw[Xe U]
      rw[N,e]at r;refine D _ _ ⟨{s with up:=false},Hp.emp,y,o2.emp.pick [1,2,0] 3,λh=>(by cases h),rfl,?_,?_,?_⟩
      .rw [r];exact Row.nil _
      .rw [r];rfl
      .rw [r];exact⟨rfl,rfl,rfl,rfl,λh=>by cases h⟩
     .have N:ZPA s x.Msg_F_0=({s with up:=true,asked:=0,sent:=0,heard:=0},ZFU 1 s.want::s.all.drop (x.Msg_F_0-1).toNat):=by unfold ZPA;rw[Xd U]
      rw[N,e]at r;refine D _ _ ⟨{s with up:=true,asked:=0,sent:=y.2.1,heard:=0},d,(0,y.2.1,0),o2,λh=>rfl,rfl,?_,?_,?_⟩
      .rw [r];exact r2
      .rw [r];rfl
      .rw [r];exact⟨rfl,rfl,rfl,rfl,λ_=>⟨rfl,rfl,by simp⟩⟩
    .have r:Zt s x=(s,[],ZKP,false,false):=by unfold Zt;rw[Xd V,Xe e]
     refine D _ _ ⟨s,Hp.emp,y,oe,hx,rfl,?_,?_,?_⟩
     .rw [r];exact Row.nil _
     .rw [r];rfl
     .rw [r];exact⟨rfl,rfl,rfl,rfl,λh=>by rw[e]at h;cases h⟩
   .refine ZD (λh0=>F _ _ ⟨rfl,?_⟩) λh0=>F _ _ ⟨rfl,?_⟩
    .have h0:x.Seq=0:=by simpa using h0
     rw[XA];simp[h0]
    .have h0:x.Seq≠0:=by simpa using h0
     exact(Xj (λh=>h0 h.1)).symm
  ·have e:s.up=true:=by simpa using e
   have L:=hx e;subst L;have os:On h (ob b (cellsOf s kp) 276::ck::l):=os;refine ZX (cd:=ci) (i:=6) (x:=(0:Int)) (vs':=cellsOf {s with heard:=0} kp) os rfl rfl (by show 6+1<=7;omega) λh6 o6=>?_;by_cases h0:x.Seq=0
   ·obtain⟨q1,q2,q3⟩:=ZVm s x e h0;refine c266 ?_;refine Zf (by simpa using h0) ?_;refine ZQe (m:=ZDt x) (s:={s with heard:=0}) o6 M hl W λsl d h7 G Z=>?_
    have q4:(ZQn {s with heard:=0} x.Msg_Kind x.Msg_F_0).1.all=s.all:=by
         unfold ZQn;split
         .split<;>rfl
         .split
          .rfl
          .split
           .split<;>rfl
           .split<;>rfl
    refine ZL (x:=(ZQn {s with heard:=0} x.Msg_Kind x.Msg_F_0).1.up) G 0 rfl rfl ?_;refine D _ _ ⟨(ZQn {s with heard:=0} x.Msg_Kind x.Msg_F_0).1,d,ZOv _,G,λ_=>rfl,q4,?_,?_,?_⟩
    .rw [<-q1];exact Z
    .rw [q2];rfl
    .rw [<-q1];exact q3
   .have r:Zt s x=((ZGA {s with heard:=0} x).1,(ZGA {s with heard:=0} x).2.1,(ZGA {s with heard:=0} x).2.2.1,(ZGA {s with heard:=0} x).2.2.2,false):=by unfold Zt;rw[Xd (λh=>h0 h.1),Xd (by rw[e];simp),Xd h0]
    obtain⟨v1,v2,v3,v4,v5⟩:=ZTx {s with heard:=0} x;have Y:On h6 (ob b (ZBO s.beat true s.want kp s.asked s.sent (0:Nat)) 276::ck::l):=by rw[<-e];exact o6
    refine ZUt (s:={s with heard:=0}) Y M e hl hw W h0 λsl d h7 G Z=>?_;refine ZL (x:=true) G 0 rfl rfl ?_;refine D _ _ ⟨{(ZGA {s with heard:=0} x).1 with sent:=s.sent},d,((ZGA {s with heard:=0} x).1.asked,s.sent,0),?_,?_,v3,?_,?_,?_⟩
    .dsimp only;have ee:(ZGA {s with heard:=0} x).1.up=true:=by rw[v2];exact e
     rw[v1,ee];exact G
    .intro _;unfold ZOv;rw[show ({(ZGA {s with heard:=0} x).1 with sent:=s.sent}:SS).heard=0 from v4]
    .rw [r];exact Z
    .rw [r];rfl
    .rw [r];exact⟨rfl,rfl,rfl,rfl,λ_=>⟨rfl,rfl,v5⟩⟩
theorem ZV8(a b:Nat):(a:Int).tmod (b:Int)=((a % b:Nat):Int):=rfl
theorem ZWy(a b:Nat):(a:Int).tdiv (b:Int)=((a / b:Nat):Int):=rfl
theorem ZXU{a k:Nat}(w:0<b):(a % b=0/\a / b=k)↔a=k*b:=by
 constructor
 .rintro ⟨o,r⟩;have:=Nat.div_add_mod a b;rw[o,r,Vq,Yv]at this;exact this.symm
 .rintro rfl;exact⟨Nat.mul_mod_left _ _,Nat.mul_div_cancel _ w⟩
theorem ZRx(o:On h (c::l))(w:ZB7 p s c)(hb:1<=s.beat/\s.beat<=1000)(hs1:s.sent<=1000000)(hs2:s.heard<=1000000){Q:Sl×Bool->Hp->Prop}(A:∀ sl F r' h',On h' (F::r'::l)->ZB7 p (ZCh s).1 F->Row ZZ r' sl (ZCh s).2.1->Q (sl,(ZCh s).2.2) h'):
 cx 182 [vp p] (ZV [cSl,cB]) h Q:=by
 have w':=w;obtain⟨b,kp,ck,y,rfl,oc,wk,hx⟩:=w;refine c182 ?_;dsimp only[ZM];have os:=o.split oc;unfold ZCh at A;refine ZI (λt h'=>h'=h/\t=!s.up) ?_ λJ hJ=>ZU rfl (ZL (x:=s.up) os 0 rfl rfl (hJ _ _ ⟨rfl,rfl⟩));rintro t h' ⟨rfl,rfl⟩;refine ZD (λe=>?_) λe=>?_
 .have e:s.up=false:=by simpa using e
  rw[Xe e]at A;exact A _ c Hp.emp h' (o.emp.swap) w' (Row.nil _)
 ·have e:s.up=true:=by simpa using e
  rw[Xd (by rw[e];simp)]at A;have hy:=hx e;subst hy;have os:On h' (ob b (cellsOf s kp) 276::ck::l):=os;refine ZL (cd:=ci) (x:=(s.sent:Int)) os 0 rfl rfl ?_;rw[Z1 (n:=s.sent) (by omega)];refine ZX (cd:=ci) (i:=5) (x:=((s.sent+1:Nat):Int)) (vs':=cellsOf {s with sent:=s.sent+1} kp) os rfl rfl (by show 5+1<=7;omega) λh2 o2=>?_;refine ZL (cd:=ci) (x:=(s.heard:Int)) o2 0 rfl rfl ?_;rw[Z1 (n:=s.heard) (by omega)];refine ZX (cd:=ci) (i:=6) (x:=((s.heard+1:Nat):Int)) (vs':=cellsOf {s with sent:=s.sent+1,heard:=s.heard+1} kp) o2 rfl rfl (by show 6+1<=7;omega) λh3 B=>?_;refine ZL (cd:=ci) (x:=((s.heard+1:Nat):Int)) B 0 rfl rfl ?_;refine ZL (cd:=ci) (x:=(s.beat:Int)) B 0 rfl rfl ?_;refine⟨by omega,?_⟩;have G:ZY1 .i64 ((s.heard+1:Nat):Int) (s.beat:Int)=(((s.heard+1) / s.beat:Nat):Int):=by have ab:=Nat.div_le_self (s.heard+1) s.beat;unfold ZY1;rw[ZWy];generalize (s.heard+1) / s.beat=k at ab⊢;exact w64 (by omega) (by omega)
  have d2:=ZXU (a:=s.heard+1) (b:=s.beat) (k:=2) (by omega);have d3:=ZXU (a:=s.heard+1) (b:=s.beat) (k:=3) (by omega);rw[ZV8];refine ZI (λs1 h4=>s.heard+1≠3*s.beat/\∃ d,On h4 (ob b (cellsOf {s with sent:=s.sent+1,heard:=s.heard+1} kp) 276::ck::d::l)/\Row ZZ d s1 (if s.heard+1=2*s.beat then [ZFU 3 0] else if s.beat<=s.sent+1 then [ZFU 2 0] else [])) ?_ λJ2 L=>?_
  ·rintro s1 h4 ⟨ac,d,o4,H⟩;rw[Xd ac]at A;have r:=H.1;refine ZI (λ_ h'=>∃ n,On h' (ob b (cellsOf {s with sent:=n,heard:=s.heard+1} kp) 276::ck::d::l)/\n=if s1.len=0 then s.sent+1 else 0) ?_ λJ1 O=>?_
   ·rintro _ X ⟨n,o5,D⟩;obtain⟨F,E,M⟩:=ZHY (s:={s with sent:=n,heard:=s.heard+1}) (lay:=ZOv) (K:=ZCb) (e:=276) (s.asked,n,s.heard+1) o5 wk (λh=>rfl);by_cases I:s.heard+1=2*s.beat
    .rw [Xe I]at A H r;have D:n=0:=by rw[D,Xd (by rw[r];simp)]
     subst D;exact A s1 F d X E M H
    .rw [Xd I]at A H r;by_cases a3:s.beat<=s.sent+1
     .rw [Xe a3]at A H r;have D:n=0:=by rw[D,Xd (by rw[r];simp)]
      subst D;exact A s1 F d X E M H
     .rw [Xd a3]at A H r;have D:n=s.sent+1:=by rw[D,Xe (by rw[r];rfl)]
      subst D;exact A s1 F d X E M H
   .refine ZG (λV=>?_) λV=>O _ _ ⟨s.sent+1,o4,by rw[Xe (by omega)]⟩;refine ZX (cd:=ci) (i:=5) (x:=(0:Int)) (vs':=cellsOf {s with sent:=0,heard:=s.heard+1} kp) o4 rfl rfl (by show 5+1<=7;omega) λX o5=>?_;exact O _ _ ⟨0,o5,by rw[Xd (by omega)]⟩
  ·refine ZI (λt h'=>h'=h3/\t=decide (s.heard+1=3*s.beat)) ?_ λJ4 U=>?_
   ·rintro t h7 ⟨rfl,rfl⟩;refine ZG (λa3=>?_) λa3=>?_
    .rw [Xe a3]at A;refine ZX (cd:=cB) (i:=1) (x:=false) (vs':=cellsOf {s with up:=false,sent:=s.sent+1,heard:=s.heard+1} kp) B rfl rfl (by show 1+1<=7;omega) λh8 o8=>?_;refine ZHz ?_;refine ZF2 (x:=ZFU 5 0) o8 λk6 N Y E W M=>?_;obtain⟨F,o9,w9⟩:=ZHY (s:={s with up:=false,sent:=s.sent+1,heard:=s.heard+1}) (lay:=ZOv) (K:=ZCb) (e:=276) (s.asked,s.sent+1,s.heard+1) (E.pick [1,2,0] 3) wk (λh=>by cases h);exact A _ F N Y o9 w9 W
    ·refine ZI (λt h'=>h'=h7/\t=decide (s.heard+1=2*s.beat)) ?_ λJ3 R=>?_
     .rintro t h11 ⟨rfl,rfl⟩;refine ZG (λI=>?_) λI=>?_
      .refine ZHz ?_;refine ZF2 (x:=ZFU 3 0) B λk6 N Y E W M=>?_;exact L _ _ ⟨a3,N,E.pick [1,2,0] 3,by rw[Xe I];exact W⟩
      .refine ZL (cd:=ci) (x:=((s.sent+1:Nat):Int)) B 0 rfl rfl ?_;refine ZL (cd:=ci) (x:=(s.beat:Int)) B 0 rfl rfl ?_;refine ZG (λZ=>?_) λZ=>?_
       .refine ZHz ?_;refine ZF2 (x:=ZFU 2 0) B λk6 N Y E W M=>?_;exact L _ _ ⟨a3,N,E.pick [1,2,0] 3,by rw[Xd I,Xe (by omega)];exact W⟩
       .exact L _ _ ⟨a3,Hp.emp,B.emp.pick [1,2,0] 3,by rw[Xd I,Xd (by omega)];exact Row.nil _⟩
     .refine ZD (λC=>?_) λC=>R _ _ ⟨rfl,?_⟩
      .refine ZL (cd:=ci) (x:=((s.heard+1:Nat):Int)) B 0 rfl rfl ?_;refine ZL (cd:=ci) (x:=(s.beat:Int)) B 0 rfl rfl ?_;refine⟨by omega,R _ _ ⟨rfl,?_⟩⟩;rw[G,XA,Xw,WS,<-d2];have C:(s.heard+1) % s.beat=0:=by have:=eq_of_beq C;omega
       omega
      .refine (Xj (λh=>?_)).symm;have h:=(d2.2 h).1;rw[h]at C;cases C
   .refine ZD (λC=>?_) λC=>U _ _ ⟨rfl,?_⟩
    .refine ZL (cd:=ci) (x:=((s.heard+1:Nat):Int)) B 0 rfl rfl ?_;refine ZL (cd:=ci) (x:=(s.beat:Int)) B 0 rfl rfl ?_;refine⟨by omega,U _ _ ⟨rfl,?_⟩⟩;rw[G,XA,Xw,WS,<-d3];have C:(s.heard+1) % s.beat=0:=by have:=eq_of_beq C;omega
     omega
    .refine (Xj (λh=>?_)).symm;have h:=(d3.2 h).1;rw[h]at C;cases C
theorem ZR4(o:On h (c::l))(w:ZB7 p s c)(hl:s.all.length<=1000000000){Q:ZY×Bool->Hp->Prop}(A:∀ B h',On h' (B::l)->ZB7 p (ZAt s m).1 B->Q (ZAt s m).2 h'):
 cx 267 [vp p,ZAk.enc m] (ZV [ZZ,cB]) h Q:=by
 have w':=w;obtain⟨b,kp,ck,y,rfl,O,U,M⟩:=w;refine c267 ?_;dsimp only[ZM];unfold ZAt at A;refine ZI (λt h'=>On h' (c::l)/\t=decide (isV m=false\/Zbd m.Kind=true)) ?_ λJ F=>?_
 ·rintro t h' ⟨o,rfl⟩;refine ZG (λe=>?_) λe=>?_
  .rw [Xe e]at A;exact A c h' o w'
  ·rw[Xd e]at A;have os:=o.split O;refine ZI (λ_ h'=>∃ y:Nat×Nat×Nat,On h' (ob b (ZBO s.beat s.up s.want kp y.1 y.2.1 y.2.2) 276::ck::l)/\(s.up=true->y=(s.asked,0,s.heard))/\(s.up=false->True)) ?_ λV r=>?_
   ·rintro _ W ⟨y,o2,D,_⟩;refine ZL (x:=kp) o2 0 rfl rfl ?_;refine ZL (x:=s.up) o2 0 rfl rfl ?_;refine ZXb o2.swap U hl λH I G E=>?_
    obtain⟨B,N,R⟩:=ZHY (s:={s with all:=s.all++[mkF (s.all.length+1:Nat) m],sent:=if s.up=true then 0 else s.sent}) (lay:=ZOv) (K:=ZCb) (e:=276) y G.swap E (λh=>by
         rw[D h];have h:s.up=true:=h;unfold ZOv;dsimp only;rw[Xe h])
    refine⟨⟨Hp.sub_rds (G.get (i:=1) rfl) (ZBI rfl),trivial⟩,?_⟩;exact A B I N R
   .refine ZL (x:=s.up) os 0 rfl rfl ?_;refine ZD (λe1=>?_) λe1=>r _ _ ⟨y,os,λh=>(by rw[e1]at h;cases h),λ_=>trivial⟩;have D:=M e1;subst D;have os:On h' (ob b (cellsOf s kp) 276::ck::l):=os;refine ZX (cd:=ci) (i:=5) (x:=(0:Int)) (vs':=cellsOf {s with sent:=0} kp) os rfl rfl (by show 5+1<=7;omega) λL C=>?_;exact r _ _ ⟨(s.asked,0,s.heard),C,λ_=>rfl,λ_=>trivial⟩
 .refine ZU rfl (ZXw (m:=m) o λL C=>?_);refine ZD (λe=>F _ _ ⟨C,?_⟩) λe=>Zbz (F _ _ ⟨C,?_⟩)
  .exact (XB (.inl (by simpa using e))).symm
  .have e:isV m=true:=by simpa using e
   rw[XA,Xw,e];simp
theorem ZNo(s:SS)(x:ZY):(Zt s x).1.beat=s.beat/\(Zt s x).1.all=s.all/\(Zt s x).1.want<=s.want+1/\(Zt s x).1.sent<=s.sent/\(Zt s x).1.heard<=s.heard/\(Zt s x).2.1.length<=s.all.length+1:=by
 unfold Zt;split
 .unfold ZPA;split
  .exact ⟨rfl,rfl,by simp,by simp,by simp,by simp⟩
  .exact ⟨rfl,rfl,by simp,by simp,by simp,by simp⟩
 ·split
  .exact ⟨rfl,rfl,by simp,by simp,by simp,by simp⟩
  ·split
   ·unfold ZYG;split
    .exact ⟨rfl,rfl,by simp,by simp,by simp,by simp⟩
    .split
     .split
      .exact ⟨rfl,rfl,by simp,by simp,by simp,by simp⟩
      .refine ⟨rfl,rfl,by simp,?_,by simp,by simp;omega⟩;dsimp only;split<;>omega
     .split
      .exact ⟨rfl,rfl,by simp,by simp,by simp,by simp⟩
      .exact ⟨rfl,rfl,by simp,by simp,by simp,by simp⟩
   ·unfold ZGA;split
    .exact ⟨rfl,rfl,by simp,by simp,by simp,by simp⟩
    .split
     .exact ⟨rfl,rfl,by simp,by simp,by simp,by simp⟩
     .split
      .exact ⟨rfl,rfl,by simp,by simp,by simp,by simp⟩
      .exact ⟨rfl,rfl,by simp,by simp,by simp,by simp⟩
theorem ZRQ(s:SS):(ZCh s).1.beat=s.beat/\(ZCh s).1.all=s.all/\(ZCh s).1.want=s.want/\(ZCh s).1.sent<=s.sent+1/\(ZCh s).1.heard<=s.heard+1/\(ZCh s).2.1.length<=1:=by
 unfold ZCh;split
 .exact ⟨rfl,rfl,rfl,by simp,by simp,by simp⟩
 ·split
  .exact ⟨rfl,rfl,rfl,by simp,by simp,by simp⟩
  .split
   .exact ⟨rfl,rfl,rfl,by simp,by simp,by simp⟩
   .split
    .exact ⟨rfl,rfl,rfl,by simp,by simp,by simp⟩
    .exact ⟨rfl,rfl,rfl,by simp,by simp,by simp⟩
def ZBq(st:SS×List (List Int)×Bool)(f:ZY):SS×List (List Int)×Bool:=
 if st.2.1.length<256 then (st.1,st.2.1++[ZBH (ZAm f)],st.2.2) else ((ZM8 st.1).1,st.2.1,st.2.2||(ZM8 st.1).2)
def ZA7(st:SS×List (List Int)×Bool)(fs:List ZY):SS×List (List Int)×Bool:=fs.foldl ZBq st
def ZAy(st:SS×List (List Int)×List ZY×Bool)(b:List Int):SS×List (List Int)×List ZY×Bool:=
 match ZET b with
 | none=>st
 | some x=>
   ((ZA7 ((Zt st.1 x).1,st.2.1,false) (Zt st.1 x).2.1).1,(ZA7 ((Zt st.1 x).1,st.2.1,false) (Zt st.1 x).2.1).2.1,
     if (Zt st.1 x).2.2.2.1=true then st.2.2.1++[mkF x.Seq (Zt st.1 x).2.2.1] else st.2.2.1,
     st.2.2.2||((Zt st.1 x).2.2.2.2||(ZA7 ((Zt st.1 x).1,st.2.1,false) (Zt st.1 x).2.1).2.2))
def Zw(pf ps pb:Option Addr):List Value:=[vp pf,vp ps,vp pb]
def ZDW(p:Option Addr)(held:List Int)(lost:Nat)(s:SS)(out:List (List Int))(c:Hp):Prop:=
 ∃ (b:Nat) (pf ps pb:Option Addr) (cf cs cb:Hp),p=sj b/\On c [ob b (Zw pf ps pb) 223,cf,cs,cb]/\ZGx pf held lost cf 278/\ZB7 ps s cs/\ZF5 pb 256 out false cb
theorem ZV2(o:On h l){Q:Option Addr->Hp->Prop}(h0:n<1\/1000<n->Q none h)(C:1<=n->n<=1000->∀ p c h',On h' (c::l)->ZDW p [] 0 (ZZA n.toNat) [] c->Q p h'):cx 60 [vi n] cP h Q:=by refine c60 ?_;refine ZWl o (λE=>Zf rfl (h0 E)) λA B ps cs O o2 w=>?_;obtain⟨ks,rfl⟩:=ZVW w;refine ZU rfl (ZTF o2 λpf cf R F M=>?_);refine ZbV F (λh=>by omega) λpb r U _ _ G N=>?_;refine ZH G λk1 D H=>?_;obtain⟨I,L⟩:=On.joined (cs:=[ob k1 (Zw pf (sj ks) pb) 223,cf,cs,r]) (l:=l) (On.pick (l:=ob k1 (Zw pf (sj ks) pb) 223::r::cf::cs::l) H [0,2,3,1] 4 (by decide) (by decide));exact C A B _ _ D I ⟨k1,pf,_,pb,cf,cs,r,rfl,L,M,w,N⟩
theorem ZKH(o:c.sub h)(w:ZDW p held lost s out c)(A:Q s.up h):cx 66 [vp p] cB h Q:=by obtain⟨b,pf,ps,pb,cf,cs,C,rfl,r,E,B,D⟩:=w;refine c66 ?_;dsimp only[ZM];exact Zf rfl ⟨ps,Hp.sub_rds (Hp.sub_trans (r.get (i:=0) rfl) o) (ZBI rfl),ZZK (Hp.sub_trans (r.get (i:=2) rfl) o) B A⟩
theorem ZV1(o:On h (c::l))(w:ZDW p held lost s out c)(D:∀ B h',On h' (B::l)->ZDW p held lost (ZM8 s).1 out B->Q (ZM8 s).2 h'):cx 64 [vp p] cB h Q:=by obtain⟨b,pf,ps,pb,cf,cs,r,rfl,G,L,M,I⟩:=w;refine c64 ?_;dsimp only[ZM];have os:=o.split G;refine Zf rfl ?_;refine ZL (x:=ps) os 0 rfl rfl ?_;have A:On h (cs::ob b (Zw pf ps pb) 223::cf::r::l):=On.pick (l:=ob b (Zw pf ps pb) 223::cf::cs::r::l) os [2,0,1,3] 4 (by decide) (by decide);refine ZO4 A M λcs' C o2 H=>?_;obtain⟨E,F⟩:=On.joined (cs:=[ob b (Zw pf ps pb) 223,cf,cs',r]) (l:=l) (o2.pick [1,2,0,3] 4);exact D _ C E ⟨b,pf,_,pb,cf,cs',r,rfl,F,L,H,I⟩
theorem ZH6{cf cs C:Hp}{fs:List ZY}(o:On h (ob b (Zw pf ps pb) 223::cf::cs::C::l))(G:ZB7 ps s cs)(H:ZF5 pb 256 out false C)(hg:g∈l)(r:Row ZZ g p1 fs)(hw:∀ f∈fs,wfF f)(hn:fs.length<=1000000001)(hq:∀ cs' cb' h',On h' (ob b (Zw pf ps pb) 223::cf::cs'::cb'::l)->ZB7 ps (ZA7 (s,out,false) fs).1 cs'->ZF5 pb 256 (ZA7 (s,out,false) fs).2.1 false cb'->Q (!(ZA7 (s,out,false) fs).2.2) h'):
 cx 183 [vp (sj b),Value.slice p1.a p1.len p1.cap] cB h Q:=by
 refine c183 ?_;dsimp only[ZM];have hl:=r.1;refine Zc (λz h'=>∃ (i:Nat) (cs C:Hp),z=((ZA7 (s,out,false) (fs.take i)).2.2,(i:Int))/\i<=fs.length/\On h' (ob b (Zw pf ps pb) 223::cf::cs::C::l)/\ZB7 ps (ZA7 (s,out,false) (fs.take i)).1 cs/\ZF5 pb 256 (ZA7 (s,out,false) (fs.take i)).2.1 false C) (λz=>fs.length-z.2.toNat)
  ⟨0,cs,C,rfl,Xh _,o,G,H⟩ ?_
 rintro J z h1 I ⟨i,cs,C,rfl,hle,W,G,H⟩
 dsimp only;refine ZG (λhlt=>?_) λhge=>?_
 ·have hi:i<fs.length:=by omega
  have a0:fs[i]?=some fs[i]:=Xa hi;have N:=hw _ (Xn a0);generalize fs[i]=f at a0 N;have D:ZA7 (s,out,false) (fs.take (i+1))=ZBq (ZA7 (s,out,false) (fs.take i)) f:=ZAB ZBq (s,out,false) fs a0;have ei:i64.wrap ((i:Int)+1)=((i+1:Nat):Int):=Z1 (by omega);rw[ei];generalize ZA7 (s,out,false) (fs.take i)=st at G H D;obtain⟨s1,w,B⟩:=st;dsimp only at G H⊢;refine ZI (λt h'=>∃ (cs C:Hp),On h' (ob b (Zw pf ps pb) 223::cf::cs::C::l)/\ZB7 ps (ZBq (s1,w,B) f).1 cs/\ZF5 pb 256 (ZBq (s1,w,B) f).2.1 false C/\t=(ZBq (s1,w,B) f).2.2) ?_ λJ2 M=>?_
  .rintro t h2 ⟨cs,C,o2,G,H,rfl⟩;exact I _ _ ⟨i+1,cs,C,by rw[D],by omega,o2,by rw[D];exact G,by rw[D];exact H⟩ (by dsimp only;omega)
  .refine ZN r (Xb i) (by omega) λa ha=>ZQ r (W.mem (by simp[hg])) rfl ha (i:=i) a0 (by simp) ?_;refine ZTH (x:=f) W N λs3 d3 h3 o3 w3=>?_;have hbl:=ZCo N;refine ZYJ o3 (g:=d3) (by simp) w3.row (ZDr f) (by omega) (λh=>by omega) λ_ s4 Y h4 Z w4=>?_;refine ZI (λt h'=>∃ C,On h' (ob b (Zw pf ps pb) 223::cf::cs::C::l)/\ZF5 pb 256 (if w.length<256 then w++[ZBH (ZAm f)] else w) false C/\t=!decide (w.length<256)) ?_ λJ3 V=>?_
   .rintro t h5 ⟨C,O,E,rfl⟩;by_cases A:w.length<256
    .rw [Xe A]at E;have F:ZBq (s1,w,B) f=(s1,w++[ZBH (ZAm f)],B):=Xe A;refine ZU (by rw[XB A];rfl) (M _ _ ⟨cs,C,O,by rw[F];exact G,by rw[F];exact E,by rw[F]⟩)
    .rw [Xd A]at E;have F:ZBq (s1,w,B) f=((ZM8 s1).1,w,B||(ZM8 s1).2):=Xd A;refine Zf (by rw[Xj A];rfl) ?_;refine ZL (x:=ps) O 0 rfl rfl ?_;refine ZO4 (O.pick [2,0,1,3] 4) G λL h6 o6 w6=>?_;have R:On h6 (ob b (Zw pf ps pb) 223::cf::L::C::l):=o6.pick [1,2,0,3] 4;refine ZD (λe=>M _ _ ⟨L,C,R,by rw[F];exact w6,by rw[F];exact E,by rw[F,e,Vb]⟩) λe=>M _ _ ⟨L,C,R,by rw[F];exact w6,by rw[F];exact E,by rw[F,e,Bool.or_false]⟩
   .refine ZU rfl ?_;refine ZL (x:=pb) Z 2 rfl rfl ?_;have X:On h4 (C::Y::ob b (Zw pf ps pb) 223::cf::cs::l):=Z.pick [5,0,2,3,4] 6;refine Za3 (g:=Y) X H (i:=1) rfl w4.row (by rw[ZEk];omega) λU h5 O w5=>?_;refine V _ _ ⟨U,O.pick [2,3,4,0] 5,?_,by simp⟩;by_cases A:w.length<256
    .rw [Xe A];simpa[A]using w5
    .rw [Xd A];simpa[A]using w5
 .have:i=fs.length:=by omega
  subst this;rw[Xo]at G H⊢;exact hq cs C h1 W G H
theorem ZRS(h:∀ x∈ns,I64 x)(i:Nat):I64 (ns.getD i 0):=by
 rw[Yb];cases o:ns[i]? with
 | none=>show I64 0;unfold I64;omega
 | some x=>exact h x (Xn o)
theorem ZPF(C:ZAD bs)(h:ZET bs=some x):wfF x:=by
 cases A:ZAZ bs with
 | none=>rw[ZSs A]at h;cases h
 | some p=>
   obtain⟨s,k⟩:=p;have E:=(ZCK C A).1;cases o:ZAZ (bs.drop k) with
   | none=>rw[ZTA A o]at h;cases h
   | some q=>
     obtain⟨t,k2⟩:=q;have F:=(ZCK (C.drop k) o).1;rw[ZNr A o]at h;by_cases D:s<0\/ZAC t<0
     .rw [Xe D]at h;cases h
     .rw [Xd D,YS]at h;obtain⟨ns,r,rfl⟩:=h;unfold ZLl at r;rw[Xd (by omega)]at r;have w:=(ZJo _ _ _ ((C.drop k).drop k2) r).2.2;intro n B;have B:n∈s::t::[ns.getD 0 0,ns.getD 1 0,ns.getD 2 0,ns.getD 3 0,ns.getD 4 0,ns.getD 5 0]:=B;simp only[Xm,XW,Ye]at B;rcases B with rfl|rfl|rfl|rfl|rfl|rfl|rfl|rfl
      .exact E
      .exact F
      all_goals exact ZRS w _
theorem ZFM(r:I64 k)(w:I64 v):wfF (ZFU k v):=by
 intro n o;have o:n∈[0,k,v,0,0,0,0,0]:=o;simp only[Xm,XW,Ye]at o;rcases o with rfl|rfl|rfl|rfl|rfl|rfl|rfl|rfl
 .unfold I64;omega
 .exact r
 .exact w
 all_goals (unfold I64;omega)
theorem ZSt(r:∀ f∈s.all,wfF f)(D:s.want<=1000000):∀ f∈(Zt s x).2.1,wfF f:=by
 have A:wfF (ZFU 1 s.want):=ZFM (by unfold I64;omega) (by unfold I64;omega);have o2:wfF (ZFU 2 0):=ZFM (by unfold I64;omega) (by unfold I64;omega);have B:wfF (ZFU 4 s.want):=ZFM (by unfold I64;omega) (by unfold I64;omega);have C:wfF (ZFU 5 0):=ZFM (by unfold I64;omega) (by unfold I64;omega);have w:∀ k,∀ f∈s.all.drop k,wfF f:=λk f o=>r f (YJ o);intro f o;unfold Zt at o;split at o
 .unfold ZPA at o;split at o
  .cases o
  .rcases Xm.1 o with rfl|o
   .exact A
   .exact w _ f o
 ·split at o
  .cases o
  ·split at o
   ·unfold ZYG at o;split at o
    .rw [Xl]at o;subst o;exact o2
    .split at o
     .split at o
      .rw [Xl]at o;subst o;exact C
      .exact w _ f o
     .split at o
      .cases o
      .cases o
   ·unfold ZGA at o;split at o
    .cases o
    .split at o
     .cases o
     .split at o
      .rw [Xl]at o;subst o;exact B
      .cases o
theorem ZXt(fs:List ZY):∀ st:SS×List (List Int)×Bool,(ZA7 st fs).1.all=st.1.all/\(ZA7 st fs).1.want=st.1.want/\(ZA7 st fs).1.beat=st.1.beat:=by
 induction fs with
 | nil=>exact λst=>⟨rfl,rfl,rfl⟩
 | cons f fs r=>
   intro st;have h:=r (ZBq st f);have o:(ZBq st f).1.all=st.1.all/\(ZBq st f).1.want=st.1.want/\(ZBq st f).1.beat=st.1.beat:=by unfold ZBq;split<;>exact⟨rfl,rfl,rfl⟩
   show (ZA7 (ZBq st f) fs).1.all=_/\(ZA7 (ZBq st f) fs).1.want=_/\(ZA7 (ZBq st f) fs).1.beat=_;rw[h.1,h.2.1,h.2.2];exact o
theorem ZQy(st:SS×List (List Int)×List ZY×Bool)(b:List Int):(ZAy st b).1.all=st.1.all/\(ZAy st b).1.want<=st.1.want+1/\(ZAy st b).2.2.1.length<=st.2.2.1.length+1:=by
 unfold ZAy;split
 .exact ⟨rfl,Ws _,Ws _⟩
 .rename_i x _;have o:=ZNo st.1 x;have r:=ZXt (Zt st.1 x).2.1 ((Zt st.1 x).1,st.2.1,false);refine⟨by rw[r.1];exact o.2.1,by rw[r.2.1];exact o.2.2.1,?_⟩;dsimp only;split
  .simp
  .exact Ws _
theorem ZQg{m:Sl}(o:On h (c::l))(w:ZDW p held lost s out c)(hg:g∈l)(r:Row (cI .u8) g m bs)(hbh:ZAD held)(hb:ZAD bs)(hl:held.length+bs.length<=100000)(am:lost<=1000000)(hall:∀ f∈s.all,wfF f)(hal:s.all.length<=1000000000)(hw:s.want<=100000){Q:Sl×Bool->Hp->Prop}(hq:∀ sl d c' h',On h' (c'::d::l)->ZDW p (Z9 (held++bs)).2.1 (lost+(Z9 (held++bs)).2.2) ((Z9 (held++bs)).1.foldl ZAy (s,out,[],false)).1 ((Z9 (held++bs)).1.foldl ZAy (s,out,[],false)).2.1 c'->
   Own ZZ d sl ((Z9 (held++bs)).1.foldl ZAy (s,out,[],false)).2.2.1->Q (sl,((Z9 (held++bs)).1.foldl ZAy (s,out,[],false)).2.2.2) h'):
 cx 108 [vp p,Value.slice m.a m.len m.cap] (ZV [cSl,cB]) h Q:=by
 obtain⟨b,pf,ps,pb,cf,cs,F,rfl,oc,wf,X,W⟩:=w;refine c108 ?_;dsimp only[ZM];have os:=o.split oc;refine ZU rfl ?_;refine ZL (x:=pf) os 0 rfl rfl ?_;have os':On h (cf::ob b (Zw pf ps pb) 223::cs::F::l):=On.pick (l:=ob b (Zw pf ps pb) 223::cf::cs::F::l) os [1,0,2,3] 4 (by decide) (by decide);refine ZKo os' wf (g:=g) (by simp[hg]) r hbh hb (by omega) am λs1 aq E V h1 o1 aj ap U H=>?_;have M:ZAD (held++bs):=by
  intro x N;rcases Xx.1 N with N|N
  .exact hbh x N
  .exact hb x N
 have ac:=(ZGD M).1;have ah:=ZKc M;have ae:=(ZCz _ _ (Xc _) M).1;rw[Xg]at ah ae;generalize Z9 (held++bs)=fl at aj U ac ah ae hq H;obtain⟨A,held',lost'⟩:=fl;dsimp only at aj U ac ah ae hq H
 have hbl:∀ x∈A,x.length<=100000:=by
  intro x N
  have:x.length+6<=(A.map λb=>b.length+6).sum:=by
   clear hq aj U ac ah ae H;induction A with
   | nil=>cases N
   | cons y ys ih=>
     rw[XS,WV];rcases Xm.1 N with rfl|N
     .omega
     .have:=ih N;omega
  omega
 have hl1:=ap.1;have hl2:=U.len;have o1':On h1 (ob b (Zw pf ps pb) 223::E::cs::F::Hp.emp::V::l):=On.pick (l:=Hp.emp::E::V::ob b (Zw pf ps pb) 223::cs::F::l) o1.emp [3,1,4,5,0,2] 6 (by decide) (by decide);refine Zc (λz h'=>∃ (i:Nat) (cs F I:Hp),z.2.2=(i:Int)/\i<=A.length/\On h' (ob b (Zw pf ps pb) 223::E::cs::F::I::V::l)/\ZB7 ps ((A.take i).foldl ZAy (s,out,[],false)).1 cs/\ZF5 pb 256 ((A.take i).foldl ZAy (s,out,[],false)).2.1 false F/\
  Own ZZ I z.1 ((A.take i).foldl ZAy (s,out,[],false)).2.2.1/\z.2.1=((A.take i).foldl ZAy (s,out,[],false)).2.2.2/\((A.take i).foldl ZAy (s,out,[],false)).1.all=s.all/\((A.take i).foldl ZAy (s,out,[],false)).1.want<=s.want+i/\((A.take i).foldl ZAy (s,out,[],false)).2.2.1.length<=i) (λz=>A.length-z.2.2.toNat)
  ⟨0,cs,F,Hp.emp,rfl,Xh _,o1',X,W,Own.nil _,rfl,rfl,Xc _,Xc _⟩ ?_
 rintro J ⟨zf,zs,zi⟩ h2 again ⟨i,cs,F,I,hzi,hle,o2,X,W,wF,hzs,q1,q2,q3⟩
 dsimp only at hzi wF hzs;subst hzi;dsimp only;refine ZG (λhlt=>?_) λhge=>?_
 ·have hi:i<A.length:=by omega
  have a0:aq[i]?=some aq[i]:=Xa (by omega);obtain⟨x,N,rx⟩:=U.get i _ a0;have hxb:=ac x (Xn N);have hxl:=hbl x (Xn N);have D:(A.take (i+1)).foldl ZAy (s,out,[],false)=ZAy ((A.take i).foldl ZAy (s,out,[],false)) x:=ZAB ZAy (s,out,[],false) A N;have ei:i64.wrap ((i:Int)+1)=((i+1:Nat):Int):=Z1 (by omega);rw[ei];have ab:=ZQy ((A.take i).foldl ZAy (s,out,[],false)) x;rw[<-D]at ab;subst hzs;generalize (A.take i).foldl ZAy (s,out,[],false)=st at X W wF q1 q2 q3 D ab⊢;obtain⟨s2,C,G,B⟩:=st;dsimp only at X W wF q1 q2 q3 ab⊢;refine ZI (λz h'=>∃ (cs F I:Hp),On h' (ob b (Zw pf ps pb) 223::E::cs::F::I::V::l)/\ZB7 ps (ZAy (s2,C,G,B) x).1 cs/\ZF5 pb 256 (ZAy (s2,C,G,B) x).2.1 false F/\Own ZZ I z.1 (ZAy (s2,C,G,B) x).2.2.1/\z.2=(ZAy (s2,C,G,B) x).2.2.2) ?_ λJ2 L=>?_
  .rintro ⟨z1,z2⟩ h3 ⟨cs,F,I,o3,X,W,wF,hz⟩;dsimp only at wF hz⊢;refine again _ _ ⟨i+1,cs,F,I,rfl,by omega,o3,by rw[D];exact X,by rw[D];exact W,by rw[D];exact wF,by rw[D];exact hz,by rw[ab.1];exact q1,by omega,by omega⟩ (by dsimp only;omega)
  ·refine ZN ap (Xb i) (by omega) λa ha=>ZQ ap (o2.mem (by simp)) rfl ha (i:=i) a0 (by simp) ?_;obtain⟨x',hx',O⟩:=H.get i _ a0;rw[N]at hx';cases hx';generalize aq[i]=sx at a0 rx O;refine ZOC o2 (g:=V) (by simp) rx hxb O (by omega) λh3 o3=>?_;cases R:ZET x with
   | none=>
     rw[ZDS R];have eh:ZAy (s2,C,G,B) x=(s2,C,G,B):=by unfold ZAy;rw[R]
     exact Zf rfl (L _ _ ⟨cs,F,I,o3,by rw[eh];exact X,by rw[eh];exact W,by rw[eh];exact wF,by rw[eh]⟩)
   | some f=>
     rw[ZGF R];have hfw:=ZPF hxb R
     have eh:ZAy (s2,C,G,B) x=((ZA7 ((Zt s2 f).1,C,false) (Zt s2 f).2.1).1,(ZA7 ((Zt s2 f).1,C,false) (Zt s2 f).2.1).2.1,
          if (Zt s2 f).2.2.2.1=true then G++[mkF f.Seq (Zt s2 f).2.2.1] else G,
          B||((Zt s2 f).2.2.2.2||(ZA7 ((Zt s2 f).1,C,false) (Zt s2 f).2.1).2.2)):=by unfold ZAy;rw[R]
     rw[eh]at L;dsimp only at L;refine ZU rfl ?_;refine ZL (x:=ps) o3 0 rfl rfl ?_;have o3':On h3 (cs::ob b (Zw pf ps pb) 223::E::F::I::V::l):=o3.pick [2,0,1,3] 4;refine ZRI (x:=f) o3' X (by rw[q1];omega) (by omega) (hfw _ (by simp[fs,ZDt])) λsl4 cs4 r4 h4 o4 ws4 rr4=>?_;have hbt:=ZNo s2 f;rw[q1]at hbt;have o4':On h4 (ob b (Zw pf ps pb) 223::E::cs4::F::r4::I::V::l):=o4.pick [2,3,0,4,1] 5;refine ZH6 o4' ws4 W (g:=r4) (by simp) rr4 (ZSt (by rw[q1];exact hall) (by omega)) (by omega) λZ Y h5 o5 ws5 wb5=>?_;refine ZI (λt h'=>h'=h5/\t=(B||((Zt s2 f).2.2.2.2||(ZA7 ((Zt s2 f).1,C,false) (Zt s2 f).2.1).2.2))) ?_ λJ3 ak=>?_
     .rintro t h6 ⟨rfl,rfl⟩;have o5':On h6 (ob b (Zw pf ps pb) 223::E::Z::Y::I::V::l):=o5.pick [0,1,2,3,5] 6;refine ZD (λe=>?_) λe=>?_
      .have e:(Zt s2 f).2.2.2.1=true:=e;rw[Xe e]at L;refine ZF2 (x:=mkF f.Seq (Zt s2 f).2.2.1) o5' λk7 d7 h7 o7 r7 w7=>?_;have o7':On h7 (I::d7::ob b (Zw pf ps pb) 223::E::Z::Y::V::l):=o7.pick [5,0,1,2,3,4] 6;refine ZW (g:=d7) (s:=zf) (t:=⟨sj k7,1,1⟩) o7' rfl wF (by decide) r7 (o7'.mem (by simp)) (by unfold ZAW;simp;omega) λd8 p8 n8 m8 h8 o8 w8=>?_;exact L (⟨p8,n8,m8⟩,_) h8 ⟨Z,Y,d8,o8.pick [2,3,4,5,0] 6,ws5,wb5,w8,rfl⟩
      .have e:(Zt s2 f).2.2.2.1=false:=e;rw[Xd (show ¬((Zt s2 f).2.2.2.1=true) by rw[e];simp)]at L;exact L (zf,_) h6 ⟨Z,Y,I,o5',ws5,wb5,wF,rfl⟩
     .refine ZD (λe=>ak _ _ ⟨rfl,?_⟩) λe=>ZD (λe2=>ak _ _ ⟨rfl,?_⟩) λe2=>ak _ _ ⟨rfl,?_⟩
      .have e:B=true:=e;rw[e];rfl
      .have e:B=false:=e;have e2:(Zt s2 f).2.2.2.2=true:=e2;rw[e,e2];rfl
      .have e:B=false:=e;have e2:(Zt s2 f).2.2.2.2=false:=e2;rw[e,e2,Bool.not_not];rfl
 .have:i=A.length:=by omega
  subst this;rw[Xo]at X W wF hzs;obtain⟨o6,o7⟩:=On.joined (cs:=[ob b (Zw pf ps pb) 223,E,cs,F]) (l:=I::V::l) o2;subst hzs;exact hq zf I _ h2 (o6.pick [0,1] 3) ⟨b,pf,ps,pb,E,cs,F,rfl,o7,aj,X,W⟩ wF
theorem ZWa(o:On h (c::l))(w:ZDW p held lost s out c)(hn:out.length<=1000){Q:Sl->Hp->Prop}(V:∀ sl ss R r' h',On h' (R::r'::l)->ZDW p held lost s [] R->Row cSl r' sl ss->ZEb r' ss out->Q sl h'):cx 114 [vp p] cSl h Q:=by
 obtain⟨b,pf,ps,pb,cf,cs,r,rfl,oc,wf,ws,F⟩:=w;refine c114 ?_;dsimp only[ZM];have os:On h (ob b (Zw pf ps pb) 223::cf::cs::r::l):=o.split oc;refine ZU rfl ?_;have oi:On h (ob b (Zw pf ps pb) 223::Hp.emp::Hp.emp::cf::cs::r::l):=os.emp.emp.pick [2,0,1] 3;refine ZXM (λn z h'=>∃ (A rest:List (List Int)) (sls:List Sl) (C D r:Hp),n=rest.length/\out=A++rest/\On h' (ob b (Zw pf ps pb) 223::C::D::cf::cs::r::l)/\Own cSl C z sls/\ZEb D sls A/\ZF5 pb 256 rest false r) out.length
  ⟨[],out,[],Hp.emp,Hp.emp,r,rfl,rfl,oi,Own.nil _,trivial,F⟩ ?_
 rintro J n z U B ⟨A,rest,sls,C,D,r,rfl,rfl,H,X,M,F⟩
 have hsl:=M.len;rw[Xg]at hn;refine ZL (x:=pb) H 0 rfl rfl ?_;have I:On U (r::ob b (Zw pf ps pb) 223::C::D::cf::cs::l):=H.pick [5,0,1,2,3,4] 6;refine ZY5 I F (λZKj=>?_) λbs q' s2 Y E h2 G o2 O w2=>?_
 .subst ZKj;refine Zf rfl ?_;obtain⟨o6,o7⟩:=On.joined (cs:=[ob b (Zw pf ps pb) 223,cf,cs,r]) (l:=C::D::l) (H.pick [0,3,4,5,1,2] 6);obtain⟨o8,W⟩:=On.joined (cs:=[C,D]) (o6.pick [1,2,0] 3);rw[Wl]at V;exact V z sls _ _ U o8.swap ⟨b,pf,ps,pb,cf,cs,r,rfl,o7,wf,ws,F⟩ (X.row.sub (W.mem (by simp))) (ZEb.sub (W.mem (by simp)) M)
 .subst G;refine ZU rfl ?_;have L:On h2 (Y::ob b (Zw pf ps pb) 223::C::D::cf::cs::E::l):=o2.pick [1,2,3,4,5,6,0] 7;refine ZSE L X M w2 (by omega) λp3 n3 m3 Z r3 h3 o3 w3 N=>?_;exact B _ _ _ ⟨A++[bs],q',sls++[s2],Z,r3,E,rfl,by simp,o3,w3,N,O⟩ (by simp)
def ZFb(s:SS)(out:List (List Int))(m:Msg):SS×List (List Int)×Bool:=
 if (ZAt s m).2.2=true then ((ZA7 ((ZAt s m).1,out,false) [(ZAt s m).2.1]).1,(ZA7 ((ZAt s m).1,out,false) [(ZAt s m).2.1]).2.1,!(ZA7 ((ZAt s m).1,out,false) [(ZAt s m).2.1]).2.2)
 else ((ZAt s m).1,out,false)
theorem ZQ4(o:On h (c::l))(w:ZDW p held lost s out c)(hl:s.all.length<=1000000000)(hw:wfF (mkF (s.all.length+1:Nat) m))(D:∀ N h',On h' (N::l)->ZDW p held lost (ZFb s out m).1 (ZFb s out m).2.1 N->Q (ZFb s out m).2.2 h'):cx 185 [vp p,ZAk.enc m] cB h Q:=by
 obtain⟨b,pf,ps,pb,cf,cs,A,rfl,oc,X,ws,W⟩:=w;refine c185 ?_;dsimp only[ZM];have os:On h (ob b (Zw pf ps pb) 223::cf::cs::A::l):=o.split oc;refine ZU rfl ?_;refine ZL (x:=ps) os 0 rfl rfl ?_;unfold ZFb at D;refine ZR4 (m:=m) (os.pick [2,0,1,3] 4) ws hl λr R o2 V=>?_;have E:On R (ob b (Zw pf ps pb) 223::cf::r::A::l):=o2.pick [1,2,0,3] 4;refine ZD (λe=>?_) λe=>?_
 .rw [Xe e]at D;have F:wfF (ZAt s m).2.1:=by
   unfold ZAt at e⊢;split at e
   .cases e
   .rename_i hc;rw[Xd hc];exact hw
  refine ZF2 (x:=(ZAt s m).2.1) E λk3 O Y o3 r3 w3=>?_;have G:On Y (ob b (Zw pf ps pb) 223::cf::r::A::O::l):=o3.pick [1,2,3,4,0] 5;refine ZH6 (p1:=⟨sj k3,1,1⟩) G V W (g:=O) (by simp) r3 (by intro f U;rw[Xl]at U;subst U;exact F) (by simp) λC B Z o4 M L=>?_;obtain⟨H,I⟩:=On.joined (cs:=[ob b (Zw pf ps pb) 223,cf,C,B]) (l:=l) (o4.pick [0,1,2,3] 5);exact D _ Z H ⟨b,pf,ps,pb,cf,C,B,rfl,I,X,M,L⟩
 .rw [Xd (by rw[e];simp)]at D;obtain⟨H,I⟩:=On.joined (cs:=[ob b (Zw pf ps pb) 223,cf,r,A]) (l:=l) E;exact D _ R H ⟨b,pf,ps,pb,cf,r,A,rfl,I,X,V,W⟩
def ZCv(b:Bond)(p:Int):Int:=if b.Low<=p/\p<=b.High then (if p.tmod b.Tick=0 then 0 else 7) else 10
def ZPl(b:Bond)(q:Int):Int:=if b.Min<=q/\q<=b.Max then (if q.tmod b.Lot=0 then 0 else 8) else 9
def ZD9(b:Bond)(p q:Int):Int:=if b.Halted=true then 6 else if ZCv b p≠0 then ZCv b p else ZPl b q
def ZAd(s:Int):Bool:=s==1||s==2
def ZAf(s:Int):Int:=if ZAd s=true then 3-s else 0
def Z5(s a b:Int):Bool:=(s==1&&decide (a>b))||(s==2&&decide (a<b))
def ZGw(s lim price:Int):Bool:=ZAd s&&!Z5 s price lim
def Zn(o:ZE):Bool:=
 decide (1<=o.ID)&&(decide (1<=o.Seq)&&(decide (1<=o.Price)&&(decide (o.Price<=1000000)&&(decide (1<=o.Left)&&(decide (o.Left<=1000000)&&(decide (0<=o.Owner)&&ZAd o.Side))))))
def ZMZ(l:List ZE)(o:ZE):List ZE×Int:=
 if Zn o=false\/l.any (λx=>x.ID==o.ID||x.Seq==o.Seq)=true then (l,1) else if 64<=l.length then (l,3) else (l++[o],0)
def ZKh(l:List ZE)(id:Int):Option ZE:=l.find? λo=>o.ID==id
def ZAE(l:List ZE)(id:Int):List ZE:=l.eraseP λo=>o.ID==id
def ZA2(o:ZE)(left:Int):ZE:={o with Left:=left}
def ZC6(l:List ZE)(id left:Int):List ZE×Int:=
 match l.findIdx? λo=>o.ID==id with
 | none=>(l,4)
 | some i=>match l[i]? with
   | none=>(l,4)
   | some o=>if left<1\/o.Left<left then (l,1) else (l.set i (ZA2 o left),0)
def ZPJ(a b:ZE):Int:=
 if Z5 a.Side a.Price b.Price=true then -1 else if Z5 a.Side b.Price a.Price=true then 1 else if a.Seq<b.Seq then -1 else if b.Seq<a.Seq then 1 else 0
def ZR5(o:ZE):List ZE->List ZE
 | []=>[o]
 | x::l=>if ZPJ o x<0 then o::x::l else x::ZR5 o l
def ZIj(l:List ZE):List ZE:=l.foldr ZR5 []
def ZAa(l:List ZE)(s:Int):List ZE:=ZIj (l.filter λo=>o.Side==s)
def ZBc(how:Int)(o x:ZE):Bool:=how==4||ZGw o.Side o.Price x.Price
def ZAl(l:List ZE)(o:ZE)(how:Int):List ZE:=(ZAa l (ZAf o.Side)).takeWhile (ZBc how o)
def ZGt(l:List ZE)(o:ZE)(how:Int):Int:=
 if ZAd o.Side=false then 0 else max (min (((ZAl l o how).filter λx=>x.Owner != o.Owner).map λx=>x.Left).sum o.Left) 0
def ZCf(l:List ZE)(o:ZE)(how:Int):Bool:=
 if how<0\/4<how then false
 else if how=4/\o.Price≠0 then false
 else if (l.any λx=>ZAd x.Side&&(x.ID==o.ID||x.Seq==o.Seq))=true then false
 else Zn (if how=4 then {o with Price:=1} else o)
def ZDD(how:Int):Bool:=how==0||how==3
def ZBw(l:List ZE)(o:ZE)(how:Int):Int:=
 if ZCf l o how=false then 1
 else if ZDD how=true/\64<=l.length then 3
 else if how=3/\ZAl l o how≠[] then 16
 else if how=2/\ZGt l o how<o.Left then 17
 else 0
structure ZCL where
 l:List ZE
 o:ZE
 fills:List ZIo
 gone:List ZQv
def ZE4(o x:ZE)(n:Int):ZIo:=⟨x.ID,o.ID,x.Owner,o.Owner,x.Price,n,x.Left-n⟩
def Zo(c:ZCL)(x:ZE):ZCL:=
 if c.o.Left=0 then c
 else if x.Owner=c.o.Owner then {c with l:=ZAE c.l x.ID,gone:=c.gone++[⟨x.ID,x.Owner,x.Left⟩]}
 else
  {l:=if min c.o.Left x.Left=x.Left then ZAE c.l x.ID else (ZC6 c.l x.ID (x.Left-min c.o.Left x.Left)).1,
   o:=ZA2 c.o (c.o.Left-min c.o.Left x.Left),fills:=c.fills++[ZE4 c.o x (min c.o.Left x.Left)],gone:=c.gone}
def ZAe(l:List ZE)(o:ZE)(how:Int):ZCL:=(ZAl l o how).foldl Zo ⟨l,o,[],[]⟩
def doV(l:List ZE)(o:ZE)(how:Int):List ZE×List ZIo×List ZQv×Int×Int:=
 if ZBw l o how≠0 then (l,[],[],0,ZBw l o how)
 else
  (if ZDD how=true/\0<(ZAe l o how).o.Left then (ZMZ (ZAe l o how).l (ZAe l o how).o).1 else (ZAe l o how).l,
    (ZAe l o how).fills,(ZAe l o how).gone,(ZAe l o how).o.Left,0)
theorem ZK(r:(ob b vs e).sub h){x:cd.T}{K:cd.T->Prop}(w:(vs.drop i).take (cd.enc x).cells.toList.length=(cd.enc x).cells.toList)(o:K x):ZC cd ⟨b,i,none⟩ h K:=
 ⟨x,Hp.sub_rds r (ZBI w),o⟩
variable {Q:Sl->Hp->Prop}
theorem ZTw{xs:List Bond}(o:On h l)(w:g∈l)(r:Row Zs g p0 xs)(hl:xs.length<=1000000)(A:∀ s d h',On h' (d::l)->Own Zs d s xs->Q s h'):cx 34 [Value.slice p0.a p0.len p0.cap] cSl h Q:=by
 refine c34 ?_;exact ZEa o w r rfl (by decide) (by decide) hl A
theorem ZLp{xs:List Z8}(o:On h l)(w:g∈l)(r:Row Zu g p0 xs)(hl:xs.length<=1000000)(A:∀ s d h',On h' (d::l)->Own Zu d s xs->Q s h'):cx 35 [Value.slice p0.a p0.len p0.cap] cSl h Q:=by
 refine c35 ?_;exact ZEa o w r rfl (by decide) (by decide) hl A
theorem ZRi{xs:List Z2}(o:On h l)(w:g∈l)(r:Row Zl g p0 xs)(hl:xs.length<=1000000)(A:∀ s d h',On h' (d::l)->Own Zl d s xs->Q s h'):cx 75 [Value.slice p0.a p0.len p0.cap] cSl h Q:=by
 refine c75 ?_;exact ZEa o w r rfl (by decide) (by decide) hl A
theorem ZTq{xs:List Ask}(o:On h l)(w:g∈l)(r:Row Zx g p0 xs)(hl:xs.length<=1000000)(A:∀ s d h',On h' (d::l)->Own Zx d s xs->Q s h'):cx 76 [Value.slice p0.a p0.len p0.cap] cSl h Q:=by
 refine c76 ?_;exact ZEa o w r rfl (by decide) (by decide) hl A
theorem ZT7(o:On h l)(w:g∈l)(r:Row ZAs g p0 xs)(hl:xs.length<=1000000)(A:∀ s d h',On h' (d::l)->Own ZAs d s xs->Q s h'):cx 138 [Value.slice p0.a p0.len p0.cap] cSl h Q:=by
 refine c138 ?_;exact ZEa o w r rfl (by decide) (by decide) hl A
theorem ZPh(o:On h (c::l))(w:Own ZAs c p0 xs)(r:i<=j)(B:j<=xs.length)(C:∀ s A h',On h' (A::l)->Own ZAs A s (xs.take i++xs.drop j)->Q s h'):cx 139 [Value.slice p0.a p0.len p0.cap,vi i,vi j] cSl h Q:=by
 refine c139 ?_;exact ZJL o w rfl (by decide) rfl r B C
theorem ZQC{xs:List ZE}(o:On h (c::l))(w:Own ZF c p0 xs)(r:i<=j)(B:j<=xs.length)(C:∀ s A h',On h' (A::l)->Own ZF A s (xs.take i++xs.drop j)->Q s h'):cx 146 [Value.slice p0.a p0.len p0.cap,vi i,vi j] cSl h Q:=by
 refine c146 ?_;exact ZJL o w rfl (by decide) rfl r B C
variable {Q:Int->Hp->Prop}
theorem ZRT{cc:List Hp}{φ:Zs.T->Bool}(A:Clo TP cc f (λx=>[Zs.enc x]) cB φ){xs:List Bond}(o:On h l)(w:∀ p∈cc,p∈l)(B:g∈l)(r:Row Zs g p0 xs)(hl:xs.length<=1000000)(C:∀ h',On h' l->Q (ZMT (xs.findIdx? φ)) h'):cx 196 [Value.slice p0.a p0.len p0.cap,Value.func (Fn.func f.g) f.first f.cap] ci h Q:=by
 refine c196 ?_;exact ZEQ A o w B r rfl rfl hl C
theorem ZSK{cc:List Hp}{φ:Zu.T->Bool}(A:Clo TP cc f (λx=>[Zu.enc x]) cB φ){xs:List Z8}(o:On h l)(w:∀ p∈cc,p∈l)(B:g∈l)(r:Row Zu g p0 xs)(hl:xs.length<=1000000)(C:∀ h',On h' l->Q (ZMT (xs.findIdx? φ)) h'):cx 197 [Value.slice p0.a p0.len p0.cap,Value.func (Fn.func f.g) f.first f.cap] ci h Q:=by
 refine c197 ?_;exact ZEQ A o w B r rfl rfl hl C
theorem ZH4{cc:List Hp}(A:Clo TP cc f (λx=>[ZF.enc x]) cB φ){xs:List ZE}(o:On h l)(w:∀ p∈cc,p∈l)(B:g∈l)(r:Row ZF g p0 xs)(hl:xs.length<=1000000)(C:∀ h',On h' l->Q (ZMT (xs.findIdx? φ)) h'):cx 228 [Value.slice p0.a p0.len p0.cap,Value.func (Fn.func f.g) f.first f.cap] ci h Q:=by
 refine c228 ?_;exact ZEQ A o w B r rfl rfl hl C
theorem ZRr{cc:List Hp}{φ:ZAs.T->Bool}(A:Clo TP cc f (λx=>[ZAs.enc x]) cB φ)(o:On h l)(w:∀ p∈cc,p∈l)(B:g∈l)(r:Row ZAs g p0 xs)(hl:xs.length<=1000000)(C:∀ h',On h' l->Q (ZMT (xs.findIdx? φ)) h'):cx 230 [Value.slice p0.a p0.len p0.cap,Value.func (Fn.func f.g) f.first f.cap] ci h Q:=by
 refine c230 ?_;exact ZEQ A o w B r rfl rfl hl C
variable {xs:List Za}
theorem ZRW{cc:List Hp}{φ:ZP.T->Bool}(A:Clo TP cc f (λx=>[ZP.enc x]) cB φ)(o:On h l)(w:∀ p∈cc,p∈l)(B:g∈l)(r:Row ZP g p0 xs)(hl:xs.length<=1000000)(C:∀ h',On h' l->Q (ZMT (xs.findIdx? φ)) h'):cx 343 [Value.slice p0.a p0.len p0.cap,Value.func (Fn.func f.g) f.first f.cap] ci h Q:=by
 refine c343 ?_;exact ZEQ A o w B r rfl rfl hl C
theorem ZNc(φ:α->Bool)(xs:List α):decide (ZMT (xs.findIdx? φ)>=0)=xs.any φ:=by
 cases h:xs.findIdx? φ with
 | none=>
   have:=WL.1 h;have e:xs.any φ=false:=YK.2 λx w=>by rw[this x w];simp
   rw[e];rfl
 | some i=>
   obtain⟨r,o,_⟩:=WA.1 h;have e:xs.any φ=true:=WC.2 ⟨xs[i],Xs r,o⟩;rw[e];exact XB (by show (0:Int)<=((i:Nat):Int);omega)
variable {Q:Bool->Hp->Prop}
theorem ZMM{cc:List Hp}{φ:Zs.T->Bool}(A:Clo TP cc f (λx=>[Zs.enc x]) cB φ){xs:List Bond}(o:On h l)(w:∀ p∈cc,p∈l)(B:g∈l)(r:Row Zs g p0 xs)(hl:xs.length<=1000000)(C:∀ h',On h' l->Q (xs.any φ) h'):cx 123 [Value.slice p0.a p0.len p0.cap,Value.func (Fn.func f.g) f.first f.cap] cB h Q:=by
 refine c123 ?_;refine ZRT A o w B r hl λh' D=>?_;rw[ZNc];exact C h' D
theorem ZLD{cc:List Hp}{φ:Zu.T->Bool}(A:Clo TP cc f (λx=>[Zu.enc x]) cB φ){xs:List Z8}(o:On h l)(w:∀ p∈cc,p∈l)(B:g∈l)(r:Row Zu g p0 xs)(hl:xs.length<=1000000)(C:∀ h',On h' l->Q (xs.any φ) h'):cx 124 [Value.slice p0.a p0.len p0.cap,Value.func (Fn.func f.g) f.first f.cap] cB h Q:=by
 refine c124 ?_;refine ZSK A o w B r hl λh' D=>?_;rw[ZNc];exact C h' D
theorem ZGr{cc:List Hp}(A:Clo TP cc f (λx=>[ZF.enc x]) cB φ){xs:List ZE}(o:On h l)(w:∀ p∈cc,p∈l)(B:g∈l)(r:Row ZF g p0 xs)(hl:xs.length<=1000000)(C:∀ h',On h' l->Q (xs.any φ) h'):cx 374 [Value.slice p0.a p0.len p0.cap,Value.func (Fn.func f.g) f.first f.cap] cB h Q:=by
 refine c374 ?_;refine ZH4 A o w B r hl λh' D=>?_;rw[ZNc];exact C h' D
variable {Q:Int×Bool->Hp->Prop}
theorem ZP3{cc:List Hp}{θ:Zx.T->Int}(A:Clo TP cc f (λx=>[Zx.enc x,vi tv]) ci θ){xs:List Ask}(o:On h l)(w:∀ p∈cc,p∈l)(B:g∈l)(r:Row Zx g p0 xs)(hl:xs.length<=1000000)(C:∀ (i:Nat) h',i<=xs.length->(∀ k,(∀ x∈xs.take k,θ x<0)->(∀ x∈xs.drop k,0<=θ x)->k<=xs.length->i=k)->On h' l->Q ((i:Int),((xs[i]?).map λx=>θ x==0).getD false) h'):
 cx 222 [Value.slice p0.a p0.len p0.cap,vi tv,Value.func (Fn.func f.g) f.first f.cap] (ZV [ci,cB]) h Q:=by
 refine c222 ?_;exact ZFQ A o w B r rfl rfl hl C
theorem ZP8{cc:List Hp}{θ:ZP.T->Int}(A:Clo TP cc f (λx=>[ZP.enc x,vi tv]) ci θ)(o:On h l)(w:∀ p∈cc,p∈l)(B:g∈l)(r:Row ZP g p0 xs)(hl:xs.length<=1000000)(C:∀ (i:Nat) h',i<=xs.length->(∀ k,(∀ x∈xs.take k,θ x<0)->(∀ x∈xs.drop k,0<=θ x)->k<=xs.length->i=k)->On h' l->Q ((i:Int),((xs[i]?).map λx=>θ x==0).getD false) h'):
 cx 224 [Value.slice p0.a p0.len p0.cap,vi tv,Value.func (Fn.func f.g) f.first f.cap] (ZV [ci,cB]) h Q:=by
 refine c224 ?_;exact ZFQ A o w B r rfl rfl hl C
theorem ZPa{cc:List Hp}{tv:Due}(A:Clo TP cc f (λx=>[ZAs.enc x,ZAs.enc tv]) ci θ){xs:List Due}(o:On h l)(w:∀ p∈cc,p∈l)(B:g∈l)(r:Row ZAs g p0 xs)(hl:xs.length<=1000000)(C:∀ (i:Nat) h',i<=xs.length->(∀ k,(∀ x∈xs.take k,θ x<0)->(∀ x∈xs.drop k,0<=θ x)->k<=xs.length->i=k)->On h' l->Q ((i:Int),((xs[i]?).map λx=>θ x==0).getD false) h'):
 cx 283 [Value.slice p0.a p0.len p0.cap,ZAs.enc tv,Value.func (Fn.func f.g) f.first f.cap] (ZV [ci,cB]) h Q:=by
 refine c283 ?_;exact ZFQ A o w B r rfl rfl hl C
theorem ZMn{cc:List Hp}{φ:Za->Bool}(B:Clo TP cc f (λx=>[ZP.enc x]) cB φ)(o:On h (c::l))(r:∀ p∈cc,p∈l)(w:Own ZP c p0 xs)(hl:xs.length<=1000000){Q:Sl->Hp->Prop}(D:∀ s A h',On h' (A::l)->Own ZP A s (xs.filter λx=>!φ x)->Q s h'):cx 299 [Value.slice p0.a p0.len p0.cap,Value.func (Fn.func f.g) f.first f.cap] cSl h Q:=by
 refine c299 ?_;refine ZRW B o (λp C=>by simp[r p C]) (by simp) w.row hl λh' E=>?_;exact ZNd B E r w rfl (by decide) rfl hl D
def ZDi(a b:Int):Int:=if a<b then -1 else if b<a then 1 else 0
variable {Q:Bool->Hp->Prop}
theorem ZPB(o:Q false h):cx 180 [vi a] cB h Q:=by refine c180 ?_;simpa using o
theorem ZLJ(o:Q false h):cx 359 [vi a] cB h Q:=by refine c359 ?_;simpa using o
theorem ZLe(o:Q false h):cx 379 [Value.int .u64 a] cB h Q:=by refine c379 ?_;simpa using o
variable {b:Int}{Q:Int->Hp->Prop}
theorem ZJp(r:Q (ZDi a b) h):ZB (decide (a<b)) (Q (-1) h) (ZB (decide (a>b)) (Q 1 h) (Q 0 h)):=by
 unfold ZDi at r;refine ZG (λo=>?_) λo=>ZG (λw=>?_) λw=>?_
 .rwa [Xe o]at r
 .rwa [Xd o,Xe w]at r
 .rwa [Xd o,Xd w]at r
theorem ZEl(o:Q (ZDi a b) h):cx 103 [vi a,vi b] ci h Q:=by refine c103 ?_;exact ZPB (ZPB (ZU rfl (ZU rfl (ZJp o))))
theorem ZNB(o:Q (ZDi a b) h):cx 327 [vi a,vi b] ci h Q:=by refine c327 ?_;exact ZLJ (ZLJ (ZU rfl (ZU rfl (ZJp o))))
theorem ZHW(o:Q (ZDi a b) h):cx 365 [Value.int .u64 a,Value.int .u64 b] ci h Q:=by refine c365 ?_;exact ZLe (ZLe (ZU rfl (ZU rfl (ZJp o))))
def ZUb:List Int->Int
 | []=>0
 | x::l=>if x≠0 then x else ZUb l
theorem ZOB{xs:List Int}(o:On h l)(G:g∈l)(r:Row ci g p0 xs)(hl:xs.length<=1000)(B:Q (ZUb xs) h):cx 326 [Value.slice p0.a p0.len p0.cap] ci h Q:=by
 refine c326 ?_;have D:=r.1;refine Zc (λz h'=>∃ i:Nat,z=i/\i<=xs.length/\h'=h/\ZUb xs=ZUb (xs.drop i)) (λz=>xs.length-z.toNat) ⟨0,rfl,Xh _,rfl,rfl⟩ ?_;rintro J n M w ⟨i,rfl,I,rfl,A⟩
 refine ZG (λL=>?_) λH=>?_
 .have C:i<xs.length:=by omega
  have a0:xs[i]?=some xs[i]:=Xa C;have F:xs.drop i=xs[i]::xs.drop (i+1):=XZ C;refine ZN r (Xb i) (by omega) λa E=>ZQ r (o.mem G) rfl E (i:=i) a0 (by simp) ?_;rw[F]at A;refine ZD (λe=>?_) λe=>?_
  .have e:xs[i]≠0:=by simpa using e
   rw[A]at B;unfold ZUb at B;rwa[Xe e]at B
  .have e:xs[i]=0:=by simpa using e
   refine w _ _ ⟨i+1,Z1 (by omega),by omega,rfl,?_⟩ (by rw[Z1 (by omega)];omega);rw[A];show (if xs[i]≠0 then xs[i] else ZUb (xs.drop (i+1)))=_;rw[Xd (by simp[e])]
 .have:i=xs.length:=by omega
  subst this;rw[XY]at A;rw[A]at B;exact B
theorem ZbJ{id:Int}:Clo TP [ob k0 [vi id] 2] ⟨229,#[],#[vp (sj k0)]⟩ (λx=>[ZF.enc x]) cB (λx:ZE=>x.ID==id):=by intro x h l Q r o w;refine⟨⟨Tryz.f229,_,Tryz.func229,rfl⟩,?_⟩;have A:=o.mem (r (ob k0 [vi id] 2) (by simp));refine c229 ?_;exact ZK A (x:=id) rfl (w h o)
theorem ZaR{id:Int}:Clo TP [ob k0 [vi k] 3,ob k1 [vi id] 2] ⟨231,#[],#[vp (sj k0),vp (sj k1)]⟩ (λx=>[ZAs.enc x]) cB (λx:Due=>x.Kind==k&&x.ID==id):=by
 intro x h l Q r o w;refine⟨⟨Tryz.f231,_,Tryz.func231,rfl⟩,?_⟩;have A:=o.mem (r (ob k0 [vi k] 3) (by simp));have B:=o.mem (r (ob k1 [vi id] 2) (by simp));refine c231 ?_;refine ZK A (x:=k) rfl ?_;refine ZD (λe=>?_) λe=>?_
 .refine ZK B (x:=id) rfl ?_;have:=w h o;dsimp only at this;rwa[e,Wq]at this
 .have:=w h o;dsimp only at this;rwa[e,WU]at this
theorem ZbR  {id:Int}:Clo TP [] ⟨223,#[],#[]⟩ (λx=>[Zx.enc x,vi id]) ci (λx:Ask=>ZDi x.ID id):=by intro x h l Q r o w;refine⟨⟨Tryz.f223,_,Tryz.func223,rfl⟩,?_⟩;refine c223 ?_;exact ZEl (w h o)
theorem Zaj  {id:Int}:Clo TP [] ⟨225,#[],#[]⟩ (λx=>[ZP.enc x,vi id]) ci (λx:Za=>ZDi x.ID id):=by intro x h l Q r o w;refine⟨⟨Tryz.f225,_,Tryz.func225,rfl⟩,?_⟩;refine c225 ?_;exact ZEl (w h o)
theorem Zai{id:Int}:Clo TP [ob k0 [vi id] 2] ⟨298,#[],#[vp (sj k0)]⟩ (λx=>[ZP.enc x]) cB (λx:Za=>x.Ask==id):=by intro x h l Q r o w;refine⟨⟨Tryz.f298,_,Tryz.func298,rfl⟩,?_⟩;have A:=o.mem (r (ob k0 [vi id] 2) (by simp));refine c298 ?_;exact ZK A (x:=id) rfl (w h o)
theorem ZaL{id:Int}:Clo TP [ob k0 [vi id] 2] ⟨300,#[],#[vp (sj k0)]⟩ (λx=>[ZP.enc x]) cB (λx:Za=>x.Ask==id):=by intro x h l Q r o w;refine⟨⟨Tryz.f300,_,Tryz.func300,rfl⟩,?_⟩;have A:=o.mem (r (ob k0 [vi id] 2) (by simp));refine c300 ?_;exact ZK A (x:=id) rfl (w h o)
theorem ZbY{id:Int}:Clo TP [ob k0 [vi id] 3] ⟨148,#[],#[vp (sj k0)]⟩ (λx=>[ZP.enc x]) cB (λx:Za=>x.Dealer==id&&x.Live):=by intro x h l Q r o w;refine⟨⟨Tryz.f148,_,Tryz.func148,rfl⟩,?_⟩;have A:=o.mem (r (ob k0 [vi id] 3) (by simp));refine c148 ?_;refine ZK A (x:=id) rfl ?_;have:=w h o;dsimp only at this;exact ZD (λe=>by rwa[e,Wq]at this) λe=>by rwa[e,WU]at this
theorem ZaP{id:Int}:Clo TP [ob k0 [vi k] 2,ob k1 [vi id] 2] ⟨289,#[],#[vp (sj k0),vp (sj k1)]⟩ (λx=>[ZP.enc x]) cB (λx:Za=>x.Ask==k&&(x.Live&&decide (x.Expires>id))):=by
 intro x h l Q r o w;refine⟨⟨Tryz.f289,_,Tryz.func289,rfl⟩,?_⟩;have A:=o.mem (r (ob k0 [vi k] 2) (by simp));have B:=o.mem (r (ob k1 [vi id] 2) (by simp));refine c289 ?_;refine ZK A (x:=k) rfl ?_;have:=w h o;dsimp only at this;refine ZD (λe=>ZD (λe2=>?_) λe2=>?_) λe=>?_
 .refine ZK B (x:=id) rfl ?_;rwa[e,e2,Wq,Wq]at this
 .rwa [e,e2,Wq,WU]at this
 .rwa [e,WU]at this
theorem ZbK:Clo TP [ob k0 (ZF.enc y).cells.toList 74] ⟨375,#[],#[vp (sj k0)]⟩ (λx=>[ZF.enc x]) cB (λx:ZE=>x.ID==y.ID||x.Seq==y.Seq):=by intro x h l Q r o A;refine⟨⟨Tryz.f375,_,Tryz.func375,rfl⟩,?_⟩;have w:=o.mem (r (ob k0 (ZF.enc y).cells.toList 74) (by simp));refine c375 ?_;have:=A h o;dsimp only at this;refine ZK w (x:=y.ID) rfl ?_;refine ZD (λe=>by rwa[e,WI]at this) λe=>?_;refine ZK w (x:=y.Seq) rfl ?_;rwa[e,Yk]at this
theorem Zah:Clo TP [ob k0 (ZF.enc y).cells.toList 74] ⟨381,#[],#[vp (sj k0)]⟩ (λx=>[ZF.enc x]) cB (λx:ZE=>x.ID==y.ID||x.Seq==y.Seq):=by intro x h l Q r o A;refine⟨⟨Tryz.f381,_,Tryz.func381,rfl⟩,?_⟩;have w:=o.mem (r (ob k0 (ZF.enc y).cells.toList 74) (by simp));refine c381 ?_;have:=A h o;dsimp only at this;refine ZK w (x:=y.ID) rfl ?_;refine ZD (λe=>by rwa[e,WI]at this) λe=>?_;refine ZK w (x:=y.Seq) rfl ?_;rwa[e,Yk]at this
theorem ZNP{a b:Due}(o:On h l)(A:∀ h',On h' l->Q (ZUb [ZDi a.Tick b.Tick,ZDi a.Kind b.Kind,ZDi a.ID b.ID]) h'):cx 284 [ZAs.enc a,ZAs.enc b] ci h Q:=by refine c284 ?_;refine ZEl (ZNB (ZEl ?_));refine ZH o λk1 w r=>?_;exact ZOB (g:=ob k1 [vi (ZDi a.Tick b.Tick),vi (ZDi a.Kind b.Kind),vi (ZDi a.ID b.ID)] 3) (p0:=⟨sj k1,3,3⟩) (xs:=[ZDi a.Tick b.Tick,ZDi a.Kind b.Kind,ZDi a.ID b.ID]) r (by simp) (Zk rfl rfl) (by simp) (A w r.tail)
theorem ZbC{b:Due}:Clo TP [] ⟨284,#[],#[]⟩ (λx=>[ZAs.enc x,ZAs.enc b]) ci (λx:Due=>ZUb [ZDi x.Tick b.Tick,ZDi x.Kind b.Kind,ZDi x.ID b.ID]):=by intro x h l Q r o w;refine⟨⟨Tryz.f284,_,Tryz.func284,rfl⟩,?_⟩;exact ZNP o w
variable {Q:Bool->Hp->Prop}{s:Int}
theorem ZDP(o:Q (ZAd s) h):cx 218 [vi s] cB h Q:=by refine c218 ?_;unfold ZAd at o;exact ZD (λe=>by rwa[e,WI]at o) λe=>by rwa[e,Yk]at o
theorem ZDX:ZAd s=true↔s=1\/s=2:=by simp[ZAd]
theorem ZKa{Q:Int->Hp->Prop}(o:Q (ZAf s) h):cx 330 [vi s] ci h Q:=by
 refine c330 ?_;refine ZDP (ZD (λe=>?_) λe=>?_)
 .have e:ZAd s=false:=by simpa using e
  unfold ZAf at o;rwa[e]at o
 .have e:ZAd s=true:=by simpa using e
  unfold ZAf at o;rw[Xe e]at o;rw[w64 (by rcases ZDX.1 e with h|h<;>omega) (by rcases ZDX.1 e with h|h<;>omega)];exact o
theorem ZK9(o:Q (Z5 s a b) h):cx 102 [vi s,vi a,vi b] cB h Q:=by
 refine c102 ?_;unfold Z5 at o;refine ZD (λe1=>?_) λe1=>?_
 .refine ZD (λe2=>?_) λe2=>?_
  .rw [e1,e2]at o;exact o
  .rw [e1,e2]at o;refine ZD (λr=>?_) λr=>?_
   .rw [r]at o;simpa using o
   .rw [r]at o;simpa using o
 .rw [e1]at o;refine ZD (λr=>?_) λr=>?_
  .rw [r]at o;simpa using o
  .rw [r]at o;simpa using o
theorem ZTt(o:Q (ZGw s a b) h):cx 382 [vi s,vi a,vi b] cB h Q:=by
 refine c382 ?_;unfold ZGw at o;refine ZDP (ZD (λe=>?_) λe=>?_)
 .refine ZK9 ?_;rw[e]at o;simpa using o
 .rw [e]at o;simpa using o
theorem ZJ0(o:Q (decide (a<=n/\n<=b)) h):ZB (decide (n>=a)) (Q (decide (n<=b)) h) (Q false h):=by
 refine ZG (λe=>?_) λe=>?_
 .rwa [show decide (a<=n/\n<=b)=decide (n<=b) from XE.2 (by omega)]at o
 .rwa [Xj (by omega)]at o
theorem ZXe(o:Q (decide (a<=n/\n<=b)) h):cx 195 [vi n,vi a,vi b] cB h Q:=by refine c195 ?_;exact ZJ0 o
variable {b:Bond}{Q:Int->Hp->Prop}
theorem ZN4{p:Int}(r:b.Tick≠0)(o:Q (ZCv b p) h):cx 206 [Zs.enc b,vi p] ci h Q:=by
 refine c206 ?_;unfold ZCv at o;refine ZXe (ZD (λe=>?_) λe=>⟨r,ZD (λe2=>?_) λe2=>?_⟩)
 .have e:¬(b.Low<=p/\p<=b.High):=λh=>by rw[XB h]at e;cases e
  rwa[Xd e]at o
 .have e:b.Low<=p/\p<=b.High:=by simpa using e
  have e2:¬p.tmod b.Tick=0:=by simpa using e2
  rwa[Xe e,Xd e2]at o
 .have e:b.Low<=p/\p<=b.High:=by simpa using e
  have e2:p.tmod b.Tick=0:=by simpa using e2
  rwa[Xe e,Xe e2]at o
theorem ZSz{p:Int}(r:b.Lot≠0)(o:Q (ZPl b p) h):cx 219 [Zs.enc b,vi p] ci h Q:=by
 refine c219 ?_;unfold ZPl at o;refine ZXe (ZD (λe=>?_) λe=>⟨r,ZD (λe2=>?_) λe2=>?_⟩)
 .have e:¬(b.Min<=p/\p<=b.Max):=λh=>by rw[XB h]at e;cases e
  rwa[Xd e]at o
 .have e:b.Min<=p/\p<=b.Max:=by simpa using e
  have e2:¬p.tmod b.Lot=0:=by simpa using e2
  rwa[Xe e,Xd e2]at o
 .have e:b.Min<=p/\p<=b.Max:=by simpa using e
  have e2:p.tmod b.Lot=0:=by simpa using e2
  rwa[Xe e,Xe e2]at o
theorem ZOm{p:Int}(r:b.Tick≠0)(hl:b.Lot≠0)(o:Q (ZD9 b p q) h):cx 279 [Zs.enc b,vi p,vi q] ci h Q:=by
 refine c279 ?_;unfold ZD9 at o;refine ZD (λe=>?_) λe=>?_
 .rwa [Xe e]at o
 .rw [Xd (by rw[e];simp)]at o;refine ZN4 r (ZD (λe2=>?_) λe2=>?_)
  .have e2:ZCv b p≠0:=by simpa using e2
   rwa[Xe e2]at o
  .have e2:¬ZCv b p≠0:=by simpa using e2
   rw[Xd e2]at o;exact ZSz hl o
variable {x:ZE}
theorem ZPq{Q:Bool->Hp->Prop}(o:Q (Zn x) h):cx 373 [ZF.enc x] cB h Q:=by
 refine c373 ?_;unfold Zn at o;have e1:∀ a:Int,decide (1<=a)=decide (a>=1):=λ_=>rfl;refine ZD (λe1=>ZD (λe2=>ZD (λr=>ZD (λw=>ZD (λA=>ZD (λB=>ZD (λC=>?_) λe=>?_) λe=>?_) λe=>?_) λe=>?_) λe=>?_) λe=>?_) λe=>?_;all_goals simp only[ge_iff_le,Xw,Wc] at*
 all_goals simp only[*,decide_true,decide_false,Wq,WU]at o
 .exact ZDP o
 all_goals exact o
def Zv(cd:Cdc)(e:TypeId)(p:Option Addr)(xs:List cd.T)(c:Hp):Prop:=
 ∃ (b:Nat) (sl:Sl) (d:Hp),p=sj b/\On c [ob b [sv sl] e,d]/\Own cd d sl xs
theorem Zv.close{b:Nat}{xs:List cd.T}(o:On h (ob b [sv sl] e::d::l))(w:Own cd d sl xs):∃ c,On h (c::l)/\Zv cd e (sj b) xs c:=by obtain⟨r,A⟩:=On.joined (cs:=[ob b [sv sl] e,d]) (l:=l) o;exact⟨_,r,b,sl,d,rfl,A,w⟩
theorem Zv.new{k:Nat}(o:On h (ob k [Value.slice none 0 0] e::l)):∃ c,On h (c::l)/\Zv cd e (sj k) [] c:=
 Zv.close (sl:=⟨none,0,0⟩) o.emp.swap (Own.nil _)
theorem Zv.some{xs:List cd.T}(w:Zv cd e p xs c):∃ b,p=sj b:=by obtain⟨b,_,_,e,_⟩:=w;exact⟨b,e⟩
theorem ZAY{φ:α->Bool}{l:List α}(h:l.findIdx? φ=some i):∃ x,l[i]?=some x/\l.find? φ=some x/\φ x=true/\i<l.length/\l.eraseP φ=l.take i++l.drop (i+1):=by
 obtain⟨w,r,B⟩:=WA.1 h;have A:l=l.take i++l[i]::l.drop (i+1):=by rw[<-XZ w,XO]
 have o:∀ b∈l.take i,¬φ b=true:=by intro b D;obtain⟨j,E,rfl⟩:=YH.1 D;exact B j (by omega)
 refine⟨l[i],Xa w,?_,r,w,?_⟩
 .rw [List.find?_eq_some_iff_append];exact⟨r,l.take i,l.drop (i+1),A,λa C=>by have:=o a C;simpa using this⟩
 .exact List.eraseP_eq_iff.2 (.inr ⟨l[i],l.take i,l.drop (i+1),o,r,A,rfl⟩)
theorem ZBY{φ:α->Bool}{l:List α}(h:l.findIdx? φ=none):l.find? φ=none/\l.eraseP φ=l:=by have:=WL.1 h;exact⟨List.find?_eq_none.2 λx o=>by rw[this x o];simp,List.eraseP_of_forall_not λx o=>by rw[this x o];simp⟩
def ZQm:ZE:=⟨0,0,0,0,0,0⟩
def ZIg(l:List ZE)(id:Int):ZE×Bool:=match ZKh l id with
 | none=>(ZQm,false)
 | some o=>(o,true)
abbrev Zp:=Zv ZF 147
section
variable {p:Option Addr}{xs:List ZE}{c h:Hp}{l:List Hp}{id:Int}
theorem ZSP(o:On h l){Q:Option Addr->Hp->Prop}(A:∀ p c h',On h' (c::l)->Zp p [] c->Q p h'):cx 41 [] cP h Q:=by refine c41 ?_;unfold F41;refine ZH o λk r B=>?_;obtain⟨c,o2,w⟩:=Zv.new (cd:=ZF) B;exact A _ c r o2 w
theorem ZKX(o:On h (c::l))(w:Zp p xs c)(hl:xs.length<=1000)(D:∀ r h',On h' (r::l)->Zp p xs r->Q (ZMT (xs.findIdx? λo=>o.ID==id)) h'):
 cx 145 [vp p,vi id] ci h Q:=by
 obtain⟨b,sl,d,rfl,F,B⟩:=w;refine c145 ?_;refine ZH (o.split F) λk1 H A=>?_;refine ZU rfl ?_;dsimp only[ZM];refine ZL (x:=sl) A 1 rfl rfl ?_;refine ZH4 (f:=⟨229,#[],#[vp (sj k1)]⟩) (ZbJ (k0:=k1) (id:=id)) A (by simp) (g:=d) (by simp) B.row (by omega) λC o2=>?_;obtain⟨c2,E,G⟩:=Zv.close o2.tail B;exact D c2 C E G
theorem ZSk(o:On h (c::l))(w:Zp p xs c)(hl:xs.length<=1000){Q:ZE×Bool->Hp->Prop}(C:∀ A h',On h' (A::l)->Zp p xs A->Q (ZIg xs id) h'):
 cx 203 [vp p,vi id] (ZV [ZF,cB]) h Q:=by
 refine c203 ?_;refine ZKX o w hl λc1 G D E=>?_;have r:=C c1 G D E;clear C;unfold ZIg ZKh at r;cases B:xs.findIdx? λo=>o.ID==id with
 | none=>
   rw[(ZBY B).1]at r;exact Zf rfl r
 | some i=>
   obtain⟨x,M,I,_,L,_⟩:=ZAY B;rw[I]at r;obtain⟨b,sl,d,rfl,N,F⟩:=E;refine ZU (Xj (by show ¬((i:Nat):Int)<0;omega)) ?_;dsimp only[ZM];have o2:=D.split N;refine ZL (x:=sl) o2 0 rfl rfl ?_;exact ZN F.row (Xb i) (by omega) λa H=>ZQ F.row (o2.mem (by simp)) rfl H (i:=i) M (by rfl) r
theorem ZFk(o:On h (c::l))(w:Zp p xs c)(hl:xs.length<=1000){Q:ZE×Bool->Hp->Prop}(r:∀ C h',On h' (C::l)->Zp p (ZAE xs id) C->Q (ZIg xs id) h'):
 cx 85 [vp p,vi id] (ZV [ZF,cB]) h Q:=by
 refine c85 ?_;refine ZKX o w hl λc1 D E F=>?_;unfold ZAE ZIg ZKh at r;cases A:xs.findIdx? λo=>o.ID==id with
 | none=>
   rw[(ZBY A).1,(ZBY A).2]at r;exact Zf rfl (r c1 D E F)
 | some i=>
   obtain⟨x,O,M,_,N,L⟩:=ZAY A;rw[M,L]at r;obtain⟨b,sl,d,rfl,W,B⟩:=F;refine ZU (Xj (by show ¬((i:Nat):Int)<0;omega)) ?_;dsimp only[ZM];have o2:=E.split W;refine ZL (x:=sl) o2 0 rfl rfl ?_;refine ZN B.row (Xb i) (by omega) λa I=>ZQ B.row (o2.mem (by simp)) rfl I (i:=i) O (by rfl) ?_;refine ZL (x:=sl) o2 0 rfl rfl ?_;show cx 146 [Value.slice sl.a sl.len sl.cap,vi (i:Int),vi (i64.wrap ((i:Int)+1))] cSl D _;rw[Z1 (by omega)];refine ZQC o2.swap B (i:=i) (j:=i+1) (by omega) (by omega) λs3 Z h3 R X=>?_;refine ZX (cd:=cSl) (i:=0) (x:=s3) (vs':=[sv s3]) R.swap rfl rfl (Xc 1) λH U=>?_;obtain⟨G,V,Y⟩:=Zv.close U X;exact r G H V Y
theorem ZPL{left:Int}(o:On h (c::l))(w:Zp p xs c)(hl:xs.length<=1000)(r:∀ M h',On h' (M::l)->Zp p (ZC6 xs id left).1 M->Q (ZC6 xs id left).2 h'):
 cx 280 [vp p,vi id,vi left] ci h Q:=by
 refine c280 ?_;refine ZU (by obtain⟨b,rfl⟩:=w.some;rfl) ?_;refine ZKX o w hl λc1 E H I=>?_;unfold ZC6 at r;cases F:xs.findIdx? λo=>o.ID==id with
 | none=>
   rw[F]at r;exact Zf rfl (r c1 E H I)
 | some i=>
   obtain⟨x,G,hf,_,U,he⟩:=ZAY F;rw[F]at r;dsimp only at r;rw[G]at r;dsimp only at r;have L:=I;obtain⟨b,sl,d,rfl,X,B⟩:=I;refine ZU (Xj (by show ¬((i:Nat):Int)<0;omega)) ?_;dsimp only[ZM];have o2:=H.split X;refine ZI (λt h'=>h'=E/\t=decide (left<1\/x.Left<left)) ?_ λJ N=>?_
   .rintro t h' ⟨rfl,rfl⟩;refine ZG (λe=>?_) λe=>?_
    .rw [Xe e]at r;exact r c1 h' H L
    .rw [Xd e]at r;refine ZL (x:=sl) o2 0 rfl rfl ?_;refine ZN B.row (Xb i) (by omega) λa C=>?_;have ea:∀ q:Addr,(⟨q.block,q.off+5,none⟩:Addr)=⟨q.block,q.off+5,none⟩:=λ_=>rfl;have A:a.spot=none:=by have:=B.2;rw[C]at this;exact this.1
     have D:(⟨(a.add (((i:Int)).toNat*6)).block,(a.add (((i:Int)).toNat*6)).off+5,none⟩:Addr)=(a.add (i*6)).add 5:=by rw[XD,ZA5 A,ZCk]
     show ZS ci ⟨(a.add (((i:Int)).toNat*6)).block,(a.add (((i:Int)).toNat*6)).off+5,none⟩ left h' _;rw[D];refine Zz (cd:=ZF) (cf:=ci) o2.swap rfl rfl B C (i:=i) (x0:=x) G (m:=i*6) rfl (k:=5) (y:=left) (x':=ZA2 x left) rfl (Xc 6) λc3 R V Y=>?_;obtain⟨O,W,Z⟩:=Zv.close V.swap Y;exact r O R W Z
   .refine ZG (λe=>N _ _ ⟨rfl,(XB (.inl e)).symm⟩) λe=>?_;refine ZL (x:=sl) o2 0 rfl rfl ?_;refine ZN B.row (Xb i) (by omega) λa C=>?_;have A:a.spot=none:=by have:=B.2;rw[C]at this;exact this.1
    have D:(⟨(a.add (((i:Int)).toNat*6)).block,(a.add (((i:Int)).toNat*6)).off+5,none⟩:Addr)=(a.add (i*6)).add 5:=by rw[XD,ZA5 A,ZCk]
    show ZC ci ⟨(a.add (((i:Int)).toNat*6)).block,(a.add (((i:Int)).toNat*6)).off+5,none⟩ E _;rw[D];refine Zd (cd:=ZF) (cf:=ci) B.row (o2.mem (by simp)) rfl C (i:=i) G rfl (k:=5) (y:=x.Left) rfl ?_;exact N _ _ ⟨rfl,XE.2 (by omega)⟩
theorem ZXa(o:c.sub h)(w:Zp p xs c)(r:Q (xs.length:Int) h):cx 369 [vp p] ci h Q:=by obtain⟨b,sl,d,rfl,A,B⟩:=w;refine c369 ?_;refine ZU rfl ?_;refine ZK (Hp.sub_trans (A.get (i:=0) rfl) o) (x:=sl) rfl ?_;rw[B.1];exact r
theorem ZTk(o:On h (c::l))(w:Zp p xs c)(hl:xs.length<=1000)(r:∀ I h',On h' (I::l)->Zp p (ZMZ xs x).1 I->Q (ZMZ xs x).2 h'):
 cx 357 [vp p,ZF.enc x] ci h Q:=by
 obtain⟨b,sl,d,rfl,oc,C⟩:=w;refine c357 ?_;refine ZH (o.split oc) λk1 W D=>?_;dsimp only[ZM];have M:=C.1;unfold ZMZ at r;refine ZI (λt h'=>On h' (ob k1 (ZF.enc x).cells.toList 74::ob b [sv sl] 147::d::l)/\t=decide (Zn x=false\/xs.any (λy=>y.ID==x.ID||y.Seq==x.Seq)=true)) ?_ λJ L=>?_
 .rintro t E ⟨o2,rfl⟩;refine ZG (λe=>?_) λe=>?_
  .rw [Xe e]at r;obtain⟨c3,A,H⟩:=Zv.close o2.tail C;exact r c3 E A H
  .rw [Xd e]at r;refine ZL (x:=sl) o2 1 rfl rfl ?_;refine ZG (λe2=>?_) λe2=>?_
   .rw [Xe (by omega)]at r;obtain⟨c3,A,H⟩:=Zv.close o2.tail C;exact r c3 E A H
   .rw [Xd (by omega)]at r;refine ZL (x:=sl) o2 1 rfl rfl ?_;refine ZL (cd:=ZF) (x:=x) o2 0 rfl rfl ?_;refine ZH o2 λk2 X A=>?_;have r3:Row ZF (ob k2 (ZF.enc x).cells.toList 74) ⟨sj k2,1,1⟩ [x]:=Zk rfl rfl;have B:On X (d::ob k2 (ZF.enc x).cells.toList 74::ob b [sv sl] 147::l):=A.pick [3,0,2] 4;refine ZW (g:=ob k2 (ZF.enc x).cells.toList 74) (s:=sl) (t:=⟨sj k2,1,1⟩) B rfl C (by decide) r3 (B.mem (by simp)) (by unfold ZAW;simp;omega) λV R O N Y o4 w4=>?_;have G:On Y (ob b [sv sl] 147::V::l):=o4.pick [2,0] 3;refine ZX (cd:=cSl) (i:=0) (x:=(⟨R,O,N⟩:Sl)) (vs':=[sv ⟨R,O,N⟩]) G rfl rfl (Xc 1) λZ o5=>?_;obtain⟨U,o6,w6⟩:=Zv.close o5 w4;exact r U Z o6 w6
 .refine ZU rfl ?_;refine ZL (cd:=ZF) (x:=x) D 0 rfl rfl ?_;refine ZPq (ZD (λe=>L _ _ ⟨D,?_⟩) λe=>?_)
  .have e:Zn x=false:=by simpa using e
   exact(XB (.inl e)).symm
  .have e:Zn x=true:=by simpa using e
   have F:On W (ob k1 (ZF.enc x).cells.toList 74::ob b [sv sl] 147::d::l):=D;refine ZL (x:=sl) D 1 rfl rfl ?_;refine ZGr (f:=⟨375,#[],#[vp (sj k1)]⟩) (ZbK (k0:=k1) (y:=x)) F (λp hp=>by rw[Xl.1 hp];exact WQ) (g:=d) (by simp) C.row (by omega) λE o2=>?_;refine L _ _ ⟨o2,?_⟩;rw[XA];simp[e]
end
def ZG8(s:Int)(x:ZE):ZE:={x with Side:=s}
theorem ZHI(h:x.Side=s):ZG8 s x=x:=by subst h;rfl
theorem ZGq(s:Int)(a b:ZE):ZPJ (ZG8 s a) (ZG8 s b)<0↔(s=1/\b.Price<a.Price)\/(s=2/\a.Price<b.Price)\/(¬(s=1/\a.Price<b.Price)/\¬(s=2/\b.Price<a.Price)/\a.Seq<b.Seq):=by
 unfold ZPJ Z5 ZG8;simp only[Wf,Xf,WS,Xw];split
 .simp only[show (-1:Int)<0 by decide,true_iff];omega
 ·split
  .simp only[show ¬(1:Int)<0 by decide,false_iff];omega
  .split
   .simp only[show (-1:Int)<0 by decide,true_iff];omega
   .split
    .simp only[show ¬(1:Int)<0 by decide,false_iff];omega
    .simp only[show ¬(0:Int)<0 by decide,false_iff];omega
def Lo(s:Int)(a b:ZE):Prop:=¬ZPJ (ZG8 s b) (ZG8 s a)<0
theorem Lo.trans{a b c:ZE}(h:Lo s a b)(g:Lo s b c):Lo s a c:=by unfold Lo at*;rw[ZGq] at*;omega
theorem Lo.anti{a b:ZE}(h:Lo s a b)(g:Lo s b a):a.Seq=b.Seq:=by unfold Lo at*;rw[ZGq] at*;omega
theorem ZcP{s:Int}{o:ZE}(B:o.Side=s):∀ {l:List ZE},(∀ x∈l,x.Side=s)->l.Pairwise (Lo s)->(ZR5 o l).Pairwise (Lo s)/\(ZR5 o l).Perm (o::l)
 | [],_,_=>⟨by simp[ZR5],WO _⟩
 | x::l,hs,hp=>by
   have r:=Wm.1 hp;have D:x.Side=s:=hs x (by simp);unfold ZR5;split
   .rename_i e;refine⟨Wm.2 ⟨λz w=>?_,hp⟩,WO _⟩;have e:ZPJ (ZG8 s o) (ZG8 s x)<0:=by rw[ZHI B,ZHI D];exact e
    have A:Lo s o x:=by unfold Lo;rw[ZGq] at*;omega
    rcases Xm.1 w with rfl|w
    .exact A
    .exact A.trans (r.1 z w)
   .rename_i e;have e:Lo s x o:=by unfold Lo;rw[ZHI B,ZHI D];exact e
    have C:=ZcP B (λy E=>hs y (by simp[E])) r.2;refine⟨Wm.2 ⟨λz w=>?_,C.1⟩,(XQ x C.2).trans (Xt o x l)⟩;rcases Xm.1 (C.2.mem_iff.1 w)with rfl|w
    .exact e
    .exact r.1 z w
theorem ZNG{s:Int}:∀ {l:List ZE},(∀ x∈l,x.Side=s)->(ZIj l).Pairwise (Lo s)/\(ZIj l).Perm l
 | [],_=>⟨YY,WO _⟩
 | x::l,h=>by have r:=ZNG λy o=>h y (Xq _ o);have w:=ZcP (h x (by simp)) (λy o=>h y (by simp[r.2.mem_iff.1 o])) r.1;exact⟨w.1,w.2.trans (XQ x r.2)⟩
theorem ZZM{l:List ZE}(o:(l.map λx=>x.Seq).Nodup):∀ a∈l,∀ b∈l,a.Seq=b.Seq->a=b:=by
 induction l with
 | nil=>intro a r;cases r
 | cons x l A=>
   rw[XS,Vk]at o;intro a r b w e;rcases Xm.1 r with h1|h1<;>rcases Xm.1 w with h2|h2
   .rw [h1,h2]
   .exact absurd (Wa.2 ⟨b,h2,by rw[<-e,h1]⟩) o.1
   .exact absurd (Wa.2 ⟨a,h1,by rw[e,h2]⟩) o.1
   .exact A o.2 a h1 b h2 e
theorem ZHH{xs:List ZE}(D:∀ x∈xs,x.Side=s)(C:(xs.map λx=>x.Seq).Nodup)(o:ys.Perm xs)(E:ys.Pairwise (Lo s)):ys=ZIj xs:=by have h:=ZNG D;refine List.Perm.eq_of_pairwise (le:=Lo s) (λa b A B r w=>?_) E h.1 (o.trans h.2.symm);exact ZZM C a (o.mem_iff.1 A) b (h.2.mem_iff.1 B) (r.anti w)
end Go.Proofs.YtkmniidiifpdgaaGreat
namespace Go.Proofs.YtkmniidiifpdgaaGreat
open Go.Shelf
open IntKind (i64 u64 u8)
def ZM2:Go.Shelf.Ren:=⟨λ|6=>57|15=>101|14=>100|28=>178|29=>179|20=>170|21=>171|22=>172|23=>173|24=>174|25=>175|26=>176|27=>177|46=>256|47=>257|48=>258|49=>259|50=>260|57=>313|n=>n,λ|22=>71|24=>74|25=>149|3=>3|39=>142|0=>0|53=>271|55=>48|4=>4|46=>265|45=>264|50=>248|5=>5|9=>9|66=>348|70=>352|76=>403|77=>404|n=>n,λ|n=>n⟩
theorem ZN6:Go.Proofs.SlLaysF0.n6 Tryz.prog ZM2:={
 mixed:=by kernel_rfl,
 f6:=⟨Tryz.f57.name,by decide,Tryz.func57.trans (congrArg some (by kernel_rfl))⟩,
 f14:=⟨Tryz.f100.name,by decide,Tryz.func100.trans (congrArg some (by kernel_rfl))⟩,
 f15:=Tryz.func101.trans (congrArg some (by kernel_rfl)),
 f20:=⟨Tryz.f170.name,by decide,Tryz.func170.trans (congrArg some (by kernel_rfl))⟩,
 f21:=⟨Tryz.f171.name,by decide,Tryz.func171.trans (congrArg some (by kernel_rfl))⟩,
 f22:=⟨Tryz.f172.name,by decide,Tryz.func172.trans (congrArg some (by kernel_rfl))⟩,
 f23:=⟨Tryz.f173.name,by decide,Tryz.func173.trans (congrArg some (by kernel_rfl))⟩,
 f24:=⟨Tryz.f174.name,by decide,Tryz.func174.trans (congrArg some (by kernel_rfl))⟩,
 f25:=⟨Tryz.f175.name,by decide,Tryz.func175.trans (congrArg some (by kernel_rfl))⟩,
 f26:=⟨Tryz.f176.name,by decide,Tryz.func176.trans (congrArg some (by kernel_rfl))⟩,
 f27:=⟨Tryz.f177.name,by decide,Tryz.func177.trans (congrArg some (by kernel_rfl))⟩,
 f28:=Tryz.func178.trans (congrArg some (by kernel_rfl)),
 f29:=Tryz.func179.trans (congrArg some (by kernel_rfl)),
 f46:=⟨Tryz.f256.name,by decide,Tryz.func256.trans (congrArg some (by kernel_rfl))⟩,
 f47:=Tryz.func257.trans (congrArg some (by kernel_rfl)),
 f48:=Tryz.func258.trans (congrArg some (by kernel_rfl)),
 f49:=⟨Tryz.f259.name,by decide,Tryz.func259.trans (congrArg some (by kernel_rfl))⟩,
 f50:=⟨Tryz.f260.name,by decide,Tryz.func260.trans (congrArg some (by kernel_rfl))⟩,
 f57:=⟨Tryz.f313.name,by decide,Tryz.func313.trans (congrArg some (by kernel_rfl))⟩,
 t0:=Tryz.underlying0,
 a0:=Tryz.isAgg0,
 z0:=Tryz.sizeOf0,
 v0:=Tryz.zeroValue0,
 t3:=Tryz.underlying3,
 a3:=Tryz.isAgg3,
 z3:=Tryz.sizeOf3,
 v3:=Tryz.zeroValue3,
 t4:=Tryz.underlying4,
 a4:=Tryz.isAgg4,
 z4:=Tryz.sizeOf4,
 v4:=Tryz.zeroValue4,
 t5:=Tryz.underlying5,
 a5:=Tryz.isAgg5,
 z5:=Tryz.sizeOf5,
 v5:=Tryz.zeroValue5,
 t9:=Tryz.underlying9,
 a9:=Tryz.isAgg9,
 z9:=Tryz.sizeOf9,
 v9:=Tryz.zeroValue9,
 t22:=Tryz.underlying71,
 a22:=Tryz.isAgg71,
 z22:=Tryz.sizeOf71,
 v22:=Tryz.zeroValue71,
 t25:=Tryz.underlying149,
 a25:=Tryz.isAgg149,
 z25:=Tryz.sizeOf149,
 v25:=Tryz.zeroValue149,
 t39:=Tryz.underlying142,
 a39:=Tryz.isAgg142,
 z39:=Tryz.sizeOf142,
 v39:=Tryz.zeroValue142,
 t45:=Tryz.underlying264,
 a45:=Tryz.isAgg264,
 z45:=Tryz.sizeOf264,
 v45:=Tryz.zeroValue264,
 t46:=Tryz.underlying265,
 a46:=Tryz.isAgg265,
 z46:=Tryz.sizeOf265,
 v46:=Tryz.zeroValue265,
 t50:=Tryz.underlying248,
 a50:=Tryz.isAgg248,
 z50:=Tryz.sizeOf248,
 v50:=Tryz.zeroValue248,
 t53:=Tryz.underlying271,
 a53:=Tryz.isAgg271,
 z53:=Tryz.sizeOf271,
 v53:=Tryz.zeroValue271,
 t55:=Tryz.underlying48,
 a55:=Tryz.isAgg48,
 z55:=Tryz.sizeOf48,
 v55:=Tryz.zeroValue48,
 t66:=Tryz.underlying348,
 a66:=Tryz.isAgg348,
 z66:=Tryz.sizeOf348,
 v66:=Tryz.zeroValue348,
 t70:=Tryz.underlying352,
 a70:=Tryz.isAgg352,
 z70:=Tryz.sizeOf352,
 v70:=Tryz.zeroValue352,
 t76:=Tryz.underlying403,
 a76:=Tryz.isAgg403,
 z76:=Tryz.sizeOf403,
 v76:=Tryz.zeroValue403,
 t77:=Tryz.underlying404,
 a77:=Tryz.isAgg404,
 z77:=Tryz.sizeOf404,
 v77:=Tryz.zeroValue404
}
end Go.Proofs.YtkmniidiifpdgaaGreat
namespace Go.Proofs.YtkmniidiifpdgaaGreat
open Go.Eng Go.Shelf Go.RowKit Go.Lib Go.Sort Go.Proofs
open IntKind (i64 u64 u8)
theorem ZNp(x y:ZE):ZPJ x y=if (x.Side=1/\y.Price<x.Price)\/(x.Side=2/\x.Price<y.Price) then -1 else if (x.Side=1/\x.Price<y.Price)\/(x.Side=2/\y.Price<x.Price) then 1 else if x.Seq<y.Seq then -1 else if y.Seq<x.Seq then 1 else 0:=by unfold ZPJ Z5;simp only[Wf,Xf,WS,Xw,gt_iff_lt]
theorem ZTb(x y:ZE)(W:World):Calls Tryz.prog 58 #[.agg #[vi x.ID,vi x.Seq,vi x.Owner,vi x.Side,vi x.Price,vi x.Left],.agg #[vi y.ID,vi y.Seq,vi y.Owner,vi y.Side,vi y.Price,vi y.Left]] W λe w'=>e=.returned (vi (ZPJ x y))/\∃ q os',w'=grow (W.drewN q) os':=by
 go_enter Tryz.func58,Tryz.ntmps58;go_wp2;all_goals go_ret
 all_goals refine⟨?_,0,_,by rw[alloc_eq_grow,alloc_eq_grow,grow_grow];rfl⟩
 all_goals first
  | exact congrArg (λk=>Ending.returned (vi k)) (show (-1:Int)=ZPJ x y by rw[ZNp];(repeat' split)<;>omega)
  | exact congrArg (λk=>Ending.returned (vi k)) (show (1:Int)=ZPJ x y by rw[ZNp];(repeat' split)<;>omega)
  | exact congrArg (λk=>Ending.returned (vi k)) (show (0:Int)=ZPJ x y by rw[ZNp];(repeat' split)<;>omega)
end Go.Proofs.YtkmniidiifpdgaaGreat
namespace Go.Proofs.YtkmniidiifpdgaaGreat
open Go.Eng Go.Shelf Go.RowKit Go.Lib Go.Sort Go.Proofs
open IntKind (i64 u64 u8)
variable {s how b a n who kind ds price qty all:Int}{xs:List ZE}{d':Array ZE}{p0:Sl}{d h c g:Hp}{l:List Hp}{Q:Bool->Hp->Prop}{x y:ZE}{p:Option Addr}{k0 k1 k size bytes z i j m:Nat}{K:Int×Int->Prop}{f ov rot:FuncId}{fn:Func}{tS e e1 e2:TypeId}{vs:List Value}{us:List Int}{fz:Nat×Nat}{cd:Cdc}{α:Type}{ps:List Z8}
instance ZcU:Inhabited ZE:=⟨⟨0,0,0,0,0,0⟩⟩
def Zbg(s:Int)(x:ZE):List Value:=[vi x.ID,vi x.Seq,vi x.Owner,vi s,vi x.Price,vi x.Left]
def cfS(s:Int)(x y:ZE):Int:=ZPJ (ZG8 s x) (ZG8 s y)
theorem ZcW(s:Int):SWO (ltOf (cfS s)) where
 irrefl x:=by unfold ltOf cfS;rw[Wc,ZGq];omega
 trans x y z h1 h2:=by unfold ltOf cfS at*;rw[Xw,ZGq] at*;omega
 ntrans x y z h1 h2:=by unfold ltOf cfS at*;rw[Wc,ZGq] at*;omega
theorem ZHo{s:Int}:∀ {xs:List ZE},(∀ x∈xs,x.Side=s)->ZO ZF xs=xs.flatMap (Zbg s)
 | [],_=>rfl
 | x::xs,h=>by have o:x.Side=s:=h x (by simp);rw[ZAc,Yx,ZHo λy r=>h y (by simp[r])];congr 1;subst o;rfl
theorem ZRL(E:∀ x∈xs,x.Side=s)(C:(xs.map λx=>x.Seq).Nodup)(o:PermIn 0 xs.toArray.size xs.toArray d')(D:SortedIn (ltOf (cfS s)) 0 xs.toArray.size d'):d'.toList=ZIj xs:=by
 have A:d'.size=xs.length:=by rw[o.1];simp
 refine ZHH E C ?_ ?_
 .have h:=o.2.2;rw[<-o.1,Array.extract_size,o.1,Array.extract_size]at h;simpa using h
 .rw [Vc];intro i j B w r;rw[Yn]at B w;have h:=D i j (Xh _) r (by simpa[A]using w);rw[getElem!_pos d' j w,getElem!_pos d' i B]at h;unfold ltOf cfS at h;rw[Wc]at h;exact h
theorem ZVi(o:On h (d::l))(w:Own ZF d p0 xs)(G:∀ x∈xs,x.Side=s)(hn:(xs.map λx=>x.Seq).Nodup)(hl:xs.length<=1000){Q:Unit->Hp->Prop}(Y:∀ d' h',On h' (d'::l)->Own ZF d' p0 (ZIj xs)->Q () h'):ZA Tryz.prog 57 [Value.slice p0.a p0.len p0.cap,Value.func (Fn.func 58) #[] #[]] (ZV []) h Q:=by
 obtain⟨pa,M,C⟩:=p0;obtain⟨r,w⟩:=w;dsimp only at r w⊢;cases pa with
 | none=>
   obtain⟨R,rfl⟩:=w;have r:M=0:=r;subst r;intro W fr hw V U;refine(AnyF.slices_SortFunc_none (P:=Tryz.prog) (ρ:=ZM2) ZN6 none C (Value.func (Fn.func 58) #[] #[]) W).mono ?_;rintro e w' ⟨rfl,rfl⟩;exact⟨_,h,rfl,⟨(),rfl,Y d h o ⟨rfl,R,rfl⟩⟩,hw,V,U,ZGj.refl _⟩
 | some a=>
   obtain⟨blk,off,N⟩:=a;obtain⟨E,pre,rest,ZBh,e,fz,X,B,A,L⟩:=w;have E:N=none:=E;subst E;have B:pre.length=off:=B;rw[ZHo G]at X;have D:xs.toArray.size=xs.length:=by simp
   subst r;refine ZTJ (α:=ZE) (k:=6) (enc:=Zbg s) (d:=xs.toArray) (Good:=λd'=>PermIn 0 xs.toArray.size xs.toArray d'/\SortedIn (ltOf (cfS s)) 0 xs.toArray.size d') (blk:=blk) (off:=off) (pre:=pre) (tail:=rest++ZBh) (e:=e) (fz:=fz) (λ_=>rfl) o X B ?_ ?_ ?_
   .intro j F H;refine L j F ?_;rw[D]at H;have A:xs.length*6+rest.length=C*6:=A;show j<off+C*6;omega
   .intro W hH I;have R:=AnyQ.slices_SortFunc (P:=Tryz.prog) (ρ:=ZM2) ZN6 6 Tryz.isAgg74 Tryz.sizeOf74 (Zbg s) (λ_=>rfl) (λx v Z=>by simp only[Zbg,Xm,XW,Ye]at Z;rcases Z with rfl|rfl|rfl|rfl|rfl|rfl<;>rfl) (cfS s) (ZcW s) 58 #[] blk off C xs.toArray W
     (enters_of Tryz.func58 (by kernel_rfl) rfl) (λm os dk hdk x y=>ZTb (ZG8 s x) (ZG8 s y) _) hH I (by rw[D];omega)
    refine R.mono ?_;rintro ex w' ⟨rfl,d',n,os,F,H,rfl⟩;exact⟨rfl,d',n,os,⟨F,H⟩,F.1,rfl⟩
   .rintro d' c' h' o' O ⟨F,H⟩ hsz;have hd:=ZRL G hn F H;refine Y c' h' o' ⟨?_,rfl,pre,rest,ZBh,e,fz,?_,B,?_,L⟩
    .exact (ZNG G).2.length_eq.symm
    .rw [ZHo λx hx=>G x ((ZNG G).2.mem_iff.1 hx),<-hd];exact O
    .rw [(ZNG G).2.length_eq];exact A
theorem ZIC(o:ZE):∀ l:List ZE,(ZR5 o l).Perm (o::l)
 | []=>WO _
 | x::l=>by
   unfold ZR5;split
   .exact WO _
   .exact (XQ x (ZIC o l)).trans (Xt o x l)
theorem ZCq:∀ l:List ZE,(ZIj l).Perm l
 | []=>WO _
 | x::l=>(ZIC x (ZIj l)).trans (XQ x (ZCq l))
theorem ZAR{l:List ZE}:x∈ZAa l s↔x∈l/\x.Side=s:=by unfold ZAa;rw[(ZCq _).mem_iff,Wk];simp
theorem ZBt(l:List ZE)(s:Int):(ZAa l s).length<=l.length:=by unfold ZAa;rw[(ZCq _).length_eq];exact Wj _ _
def ZBx(l:List ZE):Prop:=(l.map λx=>x.Seq).Nodup
theorem ZHC(o:On h (c::l))(w:Zp p xs c)(hs:ZBx xs)(hl:xs.length<=1000){Q:Sl->Hp->Prop}(hq:∀ sl H d' h',On h' (H::d'::l)->Zp p xs H->Own ZF d' sl (ZAa xs s)->Q sl h'):
 cx 20 [vp p,vi s] cSl h Q:=by
 obtain⟨b,sl,d,rfl,oc,E⟩:=w;refine c20 ?_;dsimp only[ZM];refine ZU rfl ?_;have L:=o.split oc;have I:=E.1;refine ZL (x:=sl) L 0 rfl rfl ?_;refine Zc (λz h'=>∃ (i:Nat) (A:Hp),z.2=(i:Int)/\i<=xs.length/\On h' (A::ob b [sv sl] 147::d::l)/\Own ZF A z.1 ((xs.take i).filter λx=>x.Side==s)) (λz=>xs.length-z.2.toNat)
  ⟨0,Hp.emp,rfl,Xh _,L.emp,Own.nil _⟩ ?_
 rintro J ⟨z,zi⟩ h1 again ⟨i,A,hzi,hle,o1,w1⟩
 dsimp only at hzi w1;subst hzi;dsimp only;have V:((xs.take i).filter λx=>x.Side==s).length<=i:=XG (Wj _ _) (by rw[Xk];omega);refine ZG (λY=>?_) λW=>?_
 .have X:i<xs.length:=by omega
  have a0:xs[i]?=some xs[i]:=Xa X;generalize xs[i]=x at a0;have O:i64.wrap ((i:Int)+1)=((i+1:Nat):Int):=Z1 (by omega);rw[O];have r:(xs.take (i+1)).filter (λx=>x.Side==s)=(xs.take i).filter (λx=>x.Side==s)++if (x.Side==s)=true then [x] else []:=by rw[XH,a0,WE];simp[Wh]
  refine ZI (λz h'=>∃ A,On h' (A::ob b [sv sl] 147::d::l)/\Own ZF A z ((xs.take (i+1)).filter λx=>x.Side==s)) ?_ λJ2 B=>?_
  .rintro z2 D ⟨F,o2,G⟩;exact again _ _ ⟨i+1,F,rfl,by omega,o2,G⟩ (by dsimp only;omega)
  .refine ZN E.row (Xb i) (by omega) λa U=>ZQ E.row (o1.mem (by simp)) rfl U (i:=i) a0 (by rfl) ?_;refine ZD (λe=>?_) λe=>?_
   .rw [Xe e]at r;refine ZH o1 λk2 D o2=>?_;have r2:Row ZF (ob k2 (ZF.enc x).cells.toList 74) ⟨sj k2,1,1⟩ [x]:=Zk rfl rfl;have C:On D (A::ob k2 (ZF.enc x).cells.toList 74::ob b [sv sl] 147::d::l):=o2.swap;refine ZW (g:=ob k2 (ZF.enc x).cells.toList 74) (s:=z) (t:=⟨sj k2,1,1⟩) C rfl w1 (by decide) r2 (C.mem (by simp)) (by unfold ZAW;simp;omega) λN p4 n4 m4 R o4 w4=>?_;exact B ⟨p4,n4,m4⟩ R ⟨N,o4.pick [0,2,3] 4,by rw[r];exact w4⟩
   .rw [Xd (by rw[e];simp),Wl]at r;exact B z h1 ⟨A,o1,by rw[r];exact w1⟩
 .have:i=xs.length:=by omega
  subst this;rw[Xo]at w1;have Z:((xs.filter λx=>x.Side==s).map λx=>x.Seq).Nodup:=hs.sublist ((YN ..).map _);refine ZVi (s:=s) o1 w1 (λx hx=>by simpa using (Wk.1 hx).2) Z (XG (Wj _ _) hl) λM D o2 G=>?_;obtain⟨c3,o3,w3⟩:=Zv.close (o2.pick [1,2,0] 3) E;exact hq z c3 M D o3 w3 G
theorem ZTg(o:Q (ZBc how x y) h):cx 372 [ZF.enc x,ZF.enc y,vi how] cB h Q:=by refine c372 ?_;unfold ZBc at o;exact ZD (λe=>by rwa[e,WI]at o) λe=>ZTt (by rwa[e,Yk]at o)
theorem Zav:Clo TP [ob k0 (ZF.enc x).cells.toList 74,ob k1 [vi how] 3] ⟨371,#[],#[vp (sj k0),vp (sj k1)]⟩ (λy=>[ZF.enc y]) cB (λy:ZE=>!ZBc how x y):=by intro y h l Q r o w;have A:=o.mem (r (ob k0 (ZF.enc x).cells.toList 74) WQ);have B:=o.mem (r (ob k1 [vi how] 3) (Xq _ WQ));refine⟨⟨Tryz.f371,_,Tryz.func371,rfl⟩,?_⟩;refine c371 ?_;refine ZK (cd:=ZF) A (x:=x) rfl (ZK B (x:=how) rfl ?_);exact ZTg (w h o)
theorem ZFo{α:Type}(φ:α->Bool):∀ l:List α,l.takeWhile φ=match l.findIdx? λx=>!φ x with|none=>l|some i=>l.take i
 | []=>rfl
 | x::l=>by
   rw[Vd,List.findIdx?_cons];cases h:φ x with
   | false=>simp
   | true=>
     simp only[Bool.not_true,Wb,WR,Yp];rw[ZFo φ l];cases l.findIdx? λx=>!φ x with
     | none=>rfl
     | some i=>rfl
theorem ZJ5(o:On h (c::l))(w:Zp p xs c)(U:ZBx xs)(hl:xs.length<=1000){Q:Sl->Hp->Prop}(B:∀ sl I d' h',On h' (I::d'::l)->Zp p xs I->Row ZF d' sl (ZAl xs x how)->Q sl h'):
 cx 354 [vp p,ZF.enc x,vi how] cSl h Q:=by
 refine c354 ?_;refine ZH o λk1 Y V=>?_;refine ZH V λk2 N o2=>?_;have o2:On N (ob k2 [vi how] 3::ob k1 (ZF.enc x).cells.toList 74::c::l):=o2;refine ZL (x:=x.Side) o2 1 rfl rfl ?_;refine ZKa ?_;refine ZHC (s:=ZAf x.Side) (o2.pick [2,0,1] 3) w U hl λsl c3 E Z W M r=>?_;have O:=ZBt xs (ZAf x.Side);refine ZH4 (f:=⟨371,#[],#[vp (sj k1),vp (sj k2)]⟩) (Zav (k0:=k1) (k1:=k2) (x:=x) (how:=how)) W (λp H=>by
  rcases Xm.1 H with rfl|H
  .exact Xq _ (Xq _ (Xq _ WQ))
  .rw [Xl.1 H];exact Xq _ (Xq _ WQ)) (g:=E) (by simp) r.row (by omega) λF X=>?_
 have D:On F (c3::E::l):=X.pick [0,1] 4;unfold ZAl at B;rw[ZFo]at B;have L:=r.1;have C:=r.le_cap (by decide);cases G:(ZAa xs (ZAf x.Side)).findIdx? λy=>!ZBc how x y with
 | none=>
   rw[G]at B;exact Zf rfl (B sl c3 E F D M r.row)
 | some i=>
   rw[G]at B;obtain⟨_,_,_,_,R,_⟩:=ZAY G;refine ZU (Xj (by show ¬((i:Nat):Int)<0;omega)) ?_;refine⟨Xb i,by show (((i:Nat):Int))<=_;omega,?_⟩;dsimp only;have A:=r.row.cut (k:=0) (m:=i) (cap':=sl.cap-0) (by omega) (by omega) C rfl (z:=6) rfl;rw[VY,Yz]at A;exact B _ c3 E F D M A
theorem ZOR(o:Q (ZDD how) h):cx 356 [vi how] cB h Q:=by refine c356 ?_;unfold ZDD at o;exact ZD (λe=>by rwa[e,WI]at o) λe=>by rwa[e,Yk]at o
def ZIv(l:List ZE):Prop:=∀ x∈l,1<=x.Left/\x.Left<=1000000/\1<=x.Price/\x.Price<=1000000
theorem ZCE(h:y∈ZAl xs x how):y∈xs:=by unfold ZAl at h;exact(ZAR.1 ((List.takeWhile_sublist _).subset h)).1
theorem ZGO(x:ZE)(how:Int):(ZAl xs x how).length<=xs.length:=XG (List.takeWhile_sublist _).length_le (ZBt _ _)
theorem ZU7(o:On h (c::l))(w:Zp p xs c)(hs:ZBx xs)(I:ZIv xs)(hl:xs.length<=1000){Q:Int->Hp->Prop}(B:∀ O h',On h' (O::l)->Zp p xs O->Q (ZGt xs x how) h'):
 cx 370 [vp p,ZF.enc x,vi how] ci h Q:=by
 refine c370 ?_;unfold ZGt at B;refine ZDP (ZD (λe=>?_) λe=>?_)
 .have e:ZAd x.Side=false:=by simpa using e
  rw[Xe e]at B;exact B c h o w
 ·have e:ZAd x.Side=true:=by simpa using e
  rw[Xd (by rw[e];simp)]at B;refine ZJ5 o w hs hl λsl c1 d1 W U w1 M=>?_;have H:=M.1;have N:=ZGO (xs:=xs) x how;have D:∀ y∈ZAl xs x how,1<=y.Left/\y.Left<=1000000:=λy E=>⟨(I y (ZCE E)).1,(I y (ZCE E)).2.1⟩
  generalize ZAl xs x how=r at B M H N D
  have L:∀ i,0<=(((r.take i).filter λy=>y.Owner != x.Owner).map λy=>y.Left).sum/\(((r.take i).filter λy=>y.Owner != x.Owner).map λy=>y.Left).sum<=1000000*(i:Int):=by
   intro i;induction i with
   | zero=>simp
   | succ i ih=>
     rw[XH];cases E:r[i]? with
     | none=>simp;omega
     | some y=>
       have:=D y (Xn E);rw[WE,Wo,YW];by_cases A:(y.Owner != x.Owner)=true
       .simp only[YR,Wh,A,Yp,Vl,XS,YB,WV,VO];omega
       .simp only[YR,Wh,A,Vl];simp;omega
  refine Zc (λz h'=>∃ i:Nat,z=((((r.take i).filter λy=>y.Owner != x.Owner).map λy=>y.Left).sum,(i:Int))/\i<=r.length/\h'=W) (λz=>r.length-z.2.toNat) ⟨0,by simp,Xh _,rfl⟩ ?_;rintro J z R C ⟨i,rfl,ab,rfl⟩
  dsimp only;have hsi:=L i;refine ZG (λac=>?_) λY=>?_
  .have Z:i<r.length:=by omega
   have a0:r[i]?=some r[i]:=Xa Z;have E:=D _ (Xn a0);generalize r[i]=y at a0 E;have V:i64.wrap ((i:Int)+1)=((i+1:Nat):Int):=Z1 (by omega);rw[V];have F:(((r.take (i+1)).filter λy=>y.Owner != x.Owner).map λy=>y.Left).sum=(((r.take i).filter λy=>y.Owner != x.Owner).map λy=>y.Left).sum+if (y.Owner != x.Owner)=true then y.Left else 0:=by rw[XH,a0,WE,Wo,YW];by_cases A:(y.Owner != x.Owner)=true<;>simp[A]
   refine ZI (λn h'=>h'=R/\n=(((r.take (i+1)).filter λy=>y.Owner != x.Owner).map λy=>y.Left).sum) ?_ λJ2 G=>?_
   .rintro n h3 ⟨rfl,rfl⟩;exact C _ _ ⟨i+1,rfl,by omega,rfl⟩ (by dsimp only;omega)
   .refine ZN M (Xb i) (by omega) λa X=>ZQ M (U.mem (by simp)) rfl X (i:=i) a0 (by rfl) ?_;refine ZD (λA=>G _ _ ⟨rfl,?_⟩) λA=>G _ _ ⟨rfl,?_⟩
    .rw [F,Xe A];exact w64 (by omega) (by omega)
    .rw [F,Xd (by rw[A];simp)];simp
  .have:i=r.length:=by omega
   subst this;rw[Xo];have B:=B c1 R (U.pick [0] 2) w1;have e1:∀ a b:Int,ZQq (ZGd a b) 0=max (min a b) 0:=by intro a b;unfold ZQq ZGd;split<;>split<;>omega
   rw[e1];exact B
theorem ZHg(a b:Int):ZGd a b=min a b:=by unfold ZGd;split<;>omega
theorem ZYD(a b:Int):ZQq a b=max a b:=by unfold ZQq;split<;>omega
theorem ZLO(φ:ZE->Bool)(xs:List ZE):(xs.any λx=>ZAd x.Side&&φ x)=((ZAa xs 1).any φ||(ZAa xs 2).any φ):=by
 rw[XA];simp only[Wf,WC,Xf,ZDX];constructor
 .rintro ⟨x,o,w|w,r⟩
  .exact .inl ⟨x,ZAR.2 ⟨o,w⟩,r⟩
  .exact .inr ⟨x,ZAR.2 ⟨o,w⟩,r⟩
 .rintro (⟨x,o,r⟩|⟨x,o,r⟩)
  .exact ⟨x,(ZAR.1 o).1,.inl (ZAR.1 o).2,r⟩
  .exact ⟨x,(ZAR.1 o).1,.inr (ZAR.1 o).2,r⟩
def ZBV(x:ZE)(how:Int):ZE:=if how=4 then {x with Price:=1} else x
theorem ZSx(x:ZE)(how:Int):(ZBV x how).ID=x.ID/\(ZBV x how).Seq=x.Seq:=by unfold ZBV;split<;>exact⟨rfl,rfl⟩
theorem ZWL(o:On h (c::l))(w:Zp p xs c)(hs:ZBx xs)(hl:xs.length<=1000)(r:∀ c' h',On h' (c'::l)->Zp p xs c'->Q (ZCf xs x how) h'):
 cx 368 [vp p,ZF.enc x,vi how] cB h Q:=by
 refine c368 ?_;refine ZH o λk1 h1 E=>?_;have E:On h1 (ob k1 (ZF.enc x).cells.toList 74::c::l):=E;unfold ZCf at r;refine ZI (λt h'=>h'=h1/\t=decide (how<0\/4<how)) ?_ λJ3 L=>?_
 ·rintro t h2 ⟨rfl,rfl⟩;refine ZG (λe=>?_) λe=>?_
  .rw [Xe e]at r;exact r c h2 E.tail w
  ·rw[Xd e]at r;refine ZI (λ_ h'=>On h' (ob k1 (ZF.enc (ZBV x how)).cells.toList 74::c::l)/\¬(how=4/\x.Price≠0)) ?_ λJ2 I=>?_
   ·rintro _ h3 ⟨Y,W⟩;rw[Xd W]at r;refine ZH Y λk2 h4 o4=>?_;have Z:On h4 (c::ob k2 [vi 1,vi 2] 3::ob k1 (ZF.enc (ZBV x how)).cells.toList 74::l):=o4.pick [2,0,1] 3;have M:=ZSx x how;refine Zc (λz h'=>∃ (i:Nat) (c:Hp),z=(i:Int)/\i<=2/\On h' (c::ob k2 [vi 1,vi 2] 3::ob k1 (ZF.enc (ZBV x how)).cells.toList 74::l)/\Zp p xs c/\∀ j:Nat,j<i->(ZAa xs ((j:Int)+1)).any (λy=>y.ID==x.ID||y.Seq==x.Seq)=false) (λz=>2-z.toNat)
     ⟨0,c,rfl,by omega,Z,w,λj hj=>by omega⟩ ?_
    rintro J1 z h5 B ⟨i,c5,rfl,hi2,O,w5,D⟩
    have rr:Row ci (ob k2 [vi 1,vi 2] 3) ⟨sj k2,2,2⟩ [1,2]:=Zk rfl rfl;refine ZG (λhlt=>?_) λhge=>?_
    ·have hi:i<2:=by omega
     have a0:([1,2]:List Int)[i]?=some ((i:Int)+1):=by
      rcases WB i 1 with h'|h'
      .obtain rfl:i=0:=by omega
       rfl
      .obtain rfl:i=1:=by omega
       rfl
     refine ZN rr (Xb i) (by simp;omega) λa ha=>ZQ rr (O.mem (by simp)) rfl ha (i:=i) a0 (by simp) ?_;refine ZHC (s:=(i:Int)+1) O w5 hs hl λsl V d6 h6 R U wd6=>?_;have hl6:=ZBt xs ((i:Int)+1);refine ZGr (f:=⟨381,#[],#[vp (sj k1)]⟩) (Zah (k0:=k1) (y:=ZBV x how)) R (λp hp=>by
      rw[Xl.1 hp];exact Xq _ (Xq _ (Xq _ WQ))) (g:=d6) (by simp) wd6.row (by omega) λH o7=>?_
     rw[M.1,M.2];have N:On H (V::ob k2 [vi 1,vi 2] 3::ob k1 (ZF.enc (ZBV x how)).cells.toList 74::l):=o7.pick [0,2,3] 4;refine ZD (λF=>?_) λF=>?_
     ·have:(xs.any λy=>ZAd y.Side&&(y.ID==x.ID||y.Seq==x.Seq))=true:=by
       rw[ZLO];rcases WB i 1 with h'|h'
       .obtain rfl:i=0:=by omega
        rw[show (((0:Nat):Int)+1)=1 from rfl]at F;rw[F];rfl
       .obtain rfl:i=1:=by omega
        rw[show (((1:Nat):Int)+1)=2 from rfl]at F;rw[F,Vb]
      rw[Xe this]at r;exact r V H (N.pick [0] 3) U
     .have ei:i64.wrap ((i:Int)+1)=((i+1:Nat):Int):=Z1 (by omega);rw[ei];refine B _ _ ⟨i+1,V,rfl,by omega,N,U,λj hj=>?_⟩ (by omega);rcases WB j i with h'|h'
      .exact D j h'
      .obtain rfl:j=i:=by omega
       exact F
    .obtain rfl:i=2:=by omega
     have h0:=D 0 (by omega);have G:=D 1 (by omega);rw[show (((0:Nat):Int)+1)=1 from rfl]at h0;rw[show (((1:Nat):Int)+1)=2 from rfl]at G;have:¬(xs.any λy=>ZAd y.Side&&(y.ID==x.ID||y.Seq==x.Seq))=true:=by rw[ZLO,h0,G];simp
     rw[Xd this]at r;refine ZL (cd:=ZF) (x:=ZBV x how) O 2 rfl rfl ?_;refine ZSP O λpn cn h6 R U=>?_;refine⟨⟨Hp.sub_rds (R.get (i:=3) rfl) (ZBI rfl),trivial⟩,?_⟩;refine ZTk (x:=ZBV x how) R U (by simp) λc7 H o7 w7=>?_;have r:=r c5 H (o7.pick [1] 4) w5;have e:((ZMZ [] (ZBV x how)).2==0)=Zn (if how=4 then {x with Price:=1} else x):=by show _=Zn (ZBV x how);unfold ZMZ;cases hb:Zn (ZBV x how)<;>simp
     rw[e];have X:Q (Zn (if how=4 then {x with Price:=1} else x)) H:=r;exact X
   ·refine ZD (λA=>?_) λA=>?_
    .have A:how=4:=by simpa using A
     refine ZL (x:=x.Price) E 0 rfl rfl ?_;refine ZD (λC=>?_) λC=>?_
     .have C:x.Price≠0:=by simpa using C
      rw[Xe ⟨A,C⟩]at r;exact r c h2 E.tail w
     .have C:x.Price=0:=by simpa using C
      refine ZX (cd:=ci) (i:=4) (x:=(1:Int)) (vs':=(ZF.enc (ZBV x how)).cells.toList) E rfl ?_ (show 4+1<=6 by decide) λh3 Y=>I _ _ ⟨Y,λh=>h.2 C⟩;unfold ZBV;rw[Xe A];rfl
    .have A:¬how=4:=by simpa using A
     refine I _ _ ⟨?_,λh=>A h.1⟩;unfold ZBV;rw[Xd A];exact E
 .refine ZU (by obtain⟨b,rfl⟩:=w.some;rfl) ?_;refine ZG (λe=>L _ _ ⟨rfl,(XB (.inl e)).symm⟩) λe=>L _ _ ⟨rfl,XE.2 (by omega)⟩
theorem ZWo(o:On h (c::l))(w:Zp p xs c)(I:ZBx xs)(L:ZIv xs)(hl:xs.length<=1000){Q:Int->Hp->Prop}(r:∀ U h',On h' (U::l)->Zp p xs U->Q (ZBw xs x how) h'):
 cx 353 [vp p,ZF.enc x,vi how] ci h Q:=by
 refine c353 ?_;unfold ZBw at r;refine ZWL o w I hl λc1 Y F E=>?_;refine ZD (λe=>?_) λe=>?_
 .have e:ZCf xs x how=false:=by simpa using e
  rw[Xe e]at r;exact r c1 Y F E
 have e:ZCf xs x how=true:=by simpa using e
 rw[Xd (by rw[e];simp)]at r;refine ZI (λt h'=>On h' (c1::l)/\t=decide (ZDD how=true/\64<=xs.length)) ?_ λJ3 C=>?_
 ·rintro t Z ⟨o2,rfl⟩;refine ZG (λe=>?_) λe=>?_
  .rw [Xe e]at r;exact r c1 Z o2 E
  rw[Xd e]at r;refine ZI (λt h'=>∃ c,On h' (c::l)/\Zp p xs c/\t=decide (how=3/\ZAl xs x how≠[])) ?_ λJ2 B=>?_
  ·rintro t h3 ⟨c3,M,O,rfl⟩;refine ZG (λe=>?_) λe=>?_
   .rw [Xe e]at r;exact r c3 h3 M O
   rw[Xd e]at r;refine ZI (λt h'=>∃ c,On h' (c::l)/\Zp p xs c/\t=decide (how=2/\ZGt xs x how<x.Left)) ?_ λJ1 A=>?_
   .rintro t V ⟨c4,W,X,rfl⟩;refine ZG (λe=>?_) λe=>?_
    .rw [Xe e]at r;exact r c4 V W X
    .rw [Xd e]at r;exact r c4 V W X
   .refine ZD (λe2=>?_) λe2=>?_
    .have e2:how=2:=by simpa using e2
     refine ZU7 M O I L hl λG h5 N R=>A _ _ ⟨G,N,R,XE.2 ?_⟩;exact⟨λh=>⟨e2,h⟩,λh=>h.2⟩
    .have e2:¬how=2:=by simpa using e2
     exact A _ _ ⟨c3,M,O,(Xj λh=>e2 h.1).symm⟩
  .refine ZD (λe2=>?_) λe2=>?_
   .have e2:how=3:=by simpa using e2
    refine ZJ5 o2 E I hl λsl G d5 h5 N R r5=>B _ _ ⟨G,N.pick [0] 2,R,XE.2 ?_⟩;have D:=r5.1;constructor
    .intro hp;refine⟨e2,λH=>?_⟩;rw[H,Yd]at D;omega
    .rintro ⟨_,H⟩;have:=Ve.2 H;omega
   .have e2:¬how=3:=by simpa using e2
    exact B _ _ ⟨c1,o2,E,(Xj λh=>e2 h.1).symm⟩
 .refine ZOR (ZD (λe2=>?_) λe2=>?_)
  .refine ZXa (F.mem (by simp)) E (C _ _ ⟨F,XE.2 ?_⟩);exact⟨λh=>⟨e2,by omega⟩,λh=>by omega⟩
  .exact C _ _ ⟨F,(Xj λh=>by rw[h.1]at e2;cases e2).symm⟩
theorem ZWe(o:On h (c::ob k (ZF.enc x).cells.toList 74::l))(w:Zp p xs c)(hl:xs.length<=1000)(M:0<=x.Left/\x.Left<=1000000)(N:0<=y.Left/\y.Left<=1000000){Q:ZIo->Hp->Prop}(I:∀ r h',On h' (r::ob k (ZF.enc (ZA2 x (x.Left-min x.Left y.Left))).cells.toList 74::l)->Zp p (if min x.Left y.Left=y.Left then ZAE xs y.ID else (ZC6 xs y.ID (y.Left-min x.Left y.Left)).1) r->Q (ZE4 x y (min x.Left y.Left)) h'):
 cx 355 [vp p,vp (sj k),ZF.enc y] ZCX h Q:=by
 refine c355 ?_;dsimp only[ZM];refine ZL (x:=x.Left) o 1 rfl rfl (ZL (x:=x.Left) o 1 rfl rfl ?_);rw[ZHg,w64 (by omega) (by omega),w64 (by omega) (by omega)];refine ZX (cd:=ci) (i:=5) (x:=x.Left-min x.Left y.Left) (vs':=(ZF.enc (ZA2 x (x.Left-min x.Left y.Left))).cells.toList) o.swap rfl rfl (show 5+1<=6 by decide) λO F=>?_;refine ZI (λ_ h'=>∃ r,On h' (r::ob k (ZF.enc (ZA2 x (x.Left-min x.Left y.Left))).cells.toList 74::l)/\Zp p (if min x.Left y.Left=y.Left then ZAE xs y.ID else (ZC6 xs y.ID (y.Left-min x.Left y.Left)).1) r) ?_ λJ E=>?_
 .rintro _ G ⟨c4,B,L⟩;refine ZL (x:=x.ID) B 1 rfl rfl (ZL (x:=x.Owner) B 1 rfl rfl ?_);exact I c4 G B L
 .refine ZD (λe=>?_) λe=>?_
  .have e:min x.Left y.Left=y.Left:=by simpa using e
   refine ZFk F.swap w hl λA H C D=>E _ _ ⟨A,C,?_⟩;rw[Xe e];exact D
  .have e:¬min x.Left y.Left=y.Left:=by simpa using e
   refine ZPL F.swap w hl λA H C D=>E _ _ ⟨A,C,?_⟩;rw[Xd e];exact D
theorem ZIc(xs:List ZE)(id:Int):(ZAE xs id).length<=xs.length:=List.length_eraseP_le
theorem ZME(xs:List ZE)(id left:Int):(ZC6 xs id left).1.length=xs.length:=by
 unfold ZC6;split
 .rfl
 .split
  .rfl
  .split
   .rfl
   .simp
theorem ZKl(c:ZCL)(x:ZE):(Zo c x).l.length<=c.l.length/\(Zo c x).fills.length<=c.fills.length+1/\(Zo c x).gone.length<=c.gone.length+1:=by
 unfold Zo;split
 .exact ⟨Xc _,Ws _,Ws _⟩
 .split
  .exact ⟨ZIc _ _,Ws _,by simp⟩
  .refine ⟨?_,by simp,Ws _⟩;dsimp only;split
   .exact ZIc _ _
   .rw [ZME];exact Xc _
theorem ZEj{c:ZCL}(r:0<=c.o.Left/\c.o.Left<=1000000)(w:0<=x.Left):0<=(Zo c x).o.Left/\(Zo c x).o.Left<=1000000:=by
 unfold Zo;split
 .exact r
 .split
  .exact r
  .show 0<=c.o.Left-min c.o.Left x.Left/\c.o.Left-min c.o.Left x.Left<=1000000;omega
theorem ZEr(c:ZCL)(x:ZE):(Zo c x).o.ID=c.o.ID/\(Zo c x).o.Seq=c.o.Seq/\(Zo c x).o.Owner=c.o.Owner/\(Zo c x).o.Side=c.o.Side/\(Zo c x).o.Price=c.o.Price:=by
 unfold Zo;split
 .exact ⟨rfl,rfl,rfl,rfl,rfl⟩
 .split<;>exact⟨rfl,rfl,rfl,rfl,rfl⟩
theorem ZLo:∀ (r:List ZE) (c:ZCL),c.o.Left=0->r.foldl Zo c=c
 | [],_,_=>rfl
 | x::r,c,h=>by
   have e:Zo c x=c:=by unfold Zo;rw[Xe h]
   rw[Xy,e];exact ZLo r c h
theorem Zbw(o:On h (c::l))(w:Zp p xs c)(hs:ZBx xs)(Z:ZIv xs)(hl:xs.length<=1000){Q:Sl×Sl×Int×Int->Hp->Prop}(V:∀ sf sg c' B C h',On h' (c'::B::C::l)->Zp p (doV xs x how).1 c'->Own ZCX B sf (doV xs x how).2.1->Own ZEz C sg (doV xs x how).2.2.1->Q (sf,sg,(doV xs x how).2.2.2.1,(doV xs x how).2.2.2.2) h'):
 cx 323 [vp p,ZF.enc x,vi how] (ZV [cSl,cSl,ci,ci]) h Q:=by
 refine c323 ?_
 refine ZH o λk1 h1 o1=>?_
 have o1:On h1 (ob k1 (ZF.enc x).cells.toList 74::c::l):=o1
 refine ZL (cd:=ZF) (x:=x) o1 0 rfl rfl ?_
 unfold doV at V
 refine ZWo (x:=x) o1.swap w hs Z hl λc2 h2 o2 w2=>?_
 refine ZD (λe=>?_) λe=>?_
 .have e:ZBw xs x how≠0:=by simpa using e
  rw[Xe e]at V
  exact V ⟨none,0,0⟩ ⟨none,0,0⟩ c2 Hp.emp Hp.emp h2 ((o2.emp.emp).pick [2,0,1] 4) w2 (Own.nil _) (Own.nil _)
 have e:¬ZBw xs x how≠0:=by simpa using e
 rw[Xd e]at V
 -- a right one: how much it is
 have hx:1<=x.Left/\x.Left<=1000000:=by
  have e:ZBw xs x how=0:=WF.1 e
  unfold ZBw at e
  split at e
  .cases e
  .rename_i N
   have N:ZCf xs x how=true:=by cases Y:ZCf xs x how with|true=>rfl|false=>exact absurd Y N
   unfold ZCf at N
   split at N
   .cases N
   split at N
   .cases N
   split at N
   .cases N
   have Y:Zn (ZBV x how)=true:=N
   have hl2:(ZBV x how).Left=x.Left:=by unfold ZBV;split<;>rfl
   unfold Zn at Y
   simp only[Xf,Xw]at Y
   rw[hl2]at Y
   exact⟨Y.2.2.2.2.1,Y.2.2.2.2.2.1⟩
 refine ZL (cd:=ZF) (x:=x) o2 1 rfl rfl ?_
 refine ZJ5 (x:=x) o2 w2 hs hl λsl c3 O h3 o3 w3 r3=>?_
 have hlen:=r3.1
 have hml:=ZGO (xs:=xs) x how
 have hmm:∀ y∈ZAl xs x how,1<=y.Left/\y.Left<=1000000:=λy hy=>⟨(Z y (ZCE hy)).1,(Z y (ZCE hy)).2.1⟩
 unfold ZAe at V
 generalize ZAl xs x how=A at V r3 hlen hml hmm
 have o3':On h3 (c3::ob k1 (ZF.enc x).cells.toList 74::Hp.emp::Hp.emp::O::l):=o3.emp.emp.pick [2,4,0,1,3] 5
 refine ZI (λz h'=>∃ (c B C:Hp),On h' (c::ob k1 (ZF.enc (A.foldl Zo ⟨xs,x,[],[]⟩).o).cells.toList 74::B::C::O::l)/\Zp p (A.foldl Zo ⟨xs,x,[],[]⟩).l c/\Own ZCX B z.1 (A.foldl Zo ⟨xs,x,[],[]⟩).fills/\Own ZEz C z.2 (A.foldl Zo ⟨xs,x,[],[]⟩).gone/\(A.foldl Zo ⟨xs,x,[],[]⟩).l.length<=xs.length) ?_ λJ3 hJ3=>?_
 ·rintro⟨zf,zg⟩ h4 ⟨c4,B,C,o4,w4,wf,wg,hll⟩
  dsimp only at wf wg⊢
  generalize A.foldl Zo ⟨xs,x,[],[]⟩=r at V o4 w4 wf wg hll
  refine ZI (λ_ h'=>∃ c,On h' (c::ob k1 (ZF.enc r.o).cells.toList 74::B::C::O::l)/\Zp p (if ZDD how=true/\0<r.o.Left then (ZMZ r.l r.o).1 else r.l) c) ?_ λJ1 R=>?_
  .rintro _ h5 ⟨M,G,W⟩
   refine ZL (x:=r.o.Left) G 1 rfl rfl ?_
   exact V zf zg M B C h5 (G.pick [0,2,3] 5) W wf wg
  ·refine ZI (λt h'=>On h' (c4::ob k1 (ZF.enc r.o).cells.toList 74::B::C::O::l)/\t=decide (ZDD how=true/\0<r.o.Left)) ?_ λJ2 hJ2=>?_
   .rintro t h5 ⟨G,rfl⟩
    refine ZG (λe=>?_) λe=>?_
    .rw [Xe e]at R
     refine ZL (cd:=ZF) (x:=r.o) G 1 rfl rfl ?_
     refine ZTk (x:=r.o) G w4 (by omega) λc6 h6 o6 w6=>R _ _ ⟨c6,o6,w6⟩
    .rw [Xd e]at R
     exact R _ _ ⟨c4,G,w4⟩
   .refine ZOR (ZD (λe=>?_) λe=>?_)
    .refine ZL (x:=r.o.Left) o4 1 rfl rfl ?_
     refine hJ2 _ _ ⟨o4,XE.2 ⟨λh=>⟨e,h⟩,λh=>h.2⟩⟩
    .exact hJ2 _ _ ⟨o4,(Xj λh=>by rw[h.1]at e;cases e).symm⟩
 ·refine Zc (λz h'=>∃ (i:Nat) (c B C:Hp),z.2.2=(i:Int)/\i<=A.length/\On h' (c::ob k1 (ZF.enc ((A.take i).foldl Zo ⟨xs,x,[],[]⟩).o).cells.toList 74::B::C::O::l)/\Zp p ((A.take i).foldl Zo ⟨xs,x,[],[]⟩).l c/\
   Own ZCX B z.1 ((A.take i).foldl Zo ⟨xs,x,[],[]⟩).fills/\Own ZEz C z.2.1 ((A.take i).foldl Zo ⟨xs,x,[],[]⟩).gone/\((A.take i).foldl Zo ⟨xs,x,[],[]⟩).l.length<=xs.length/\((A.take i).foldl Zo ⟨xs,x,[],[]⟩).fills.length<=i/\((A.take i).foldl Zo ⟨xs,x,[],[]⟩).gone.length<=i/\
   0<=((A.take i).foldl Zo ⟨xs,x,[],[]⟩).o.Left/\((A.take i).foldl Zo ⟨xs,x,[],[]⟩).o.Left<=1000000) (λz=>A.length-z.2.2.toNat)
   ⟨0,c3,Hp.emp,Hp.emp,rfl,Xh _,o3',w3,Own.nil _,Own.nil _,Xc _,Xc _,Xc _,by show 0<=x.Left;omega,hx.2⟩ ?_
  rintro J4 ⟨zf,zg,zi⟩ h4 again ⟨i,c4,B,C,hzi,hle,o4,w4,wf,wg,b1,b2,b3,b4,b5⟩
  dsimp only at hzi wf wg
  subst hzi
  dsimp only
  refine ZG (λhlt=>?_) λhge=>?_
  ·have hi:i<A.length:=by omega
   have a0:A[i]?=some A[i]:=Xa hi
   have hy:=hmm _ (Xn a0)
   have D:=ZAB Zo ⟨xs,x,[],[]⟩ A a0
   have E:A.foldl Zo ⟨xs,x,[],[]⟩=(A.drop i).foldl Zo ((A.take i).foldl Zo ⟨xs,x,[],[]⟩):=by rw[<-WX,XO]
   generalize A[i]=y at a0 hy D
   have ei:i64.wrap ((i:Int)+1)=((i+1:Nat):Int):=Z1 (by omega)
   rw[ei]
   have U:=ZKl ((A.take i).foldl Zo ⟨xs,x,[],[]⟩) y
   have I:=ZEj (c:=(A.take i).foldl Zo ⟨xs,x,[],[]⟩) (x:=y) ⟨b4,b5⟩ (by omega)
   rw[<-D]at U I
   generalize (A.take i).foldl Zo ⟨xs,x,[],[]⟩=r at o4 w4 wf wg b1 b2 b3 b4 b5 D E U
   refine ZI (λz h'=>∃ (c B C:Hp),On h' (c::ob k1 (ZF.enc (Zo r y).o).cells.toList 74::B::C::O::l)/\Zp p (Zo r y).l c/\Own ZCX B z.1 (Zo r y).fills/\Own ZEz C z.2 (Zo r y).gone) ?_ λJ5 F=>?_
   .rintro ⟨z1,z2⟩ h5 ⟨M,df5,dg5,G,W,wf5,wg5⟩
    rw[<-D]at G W wf5 wg5
    exact again _ _ ⟨i+1,M,df5,dg5,rfl,by omega,G,W,wf5,wg5,by omega,by omega,by omega,I.1,I.2⟩ (by dsimp only;omega)
   ·refine ZN r3 (Xb i) (by omega) λa ha=>ZQ r3 (o4.mem (by simp)) rfl ha (i:=i) a0 (by rfl) ?_
    refine ZL (x:=r.o.Left) o4 1 rfl rfl ?_
    refine ZD (λX=>?_) λX=>?_
    .have X:r.o.Left=0:=by simpa using X
     rw[ZLo _ _ X]at E
     refine hJ3 (zf,zg) h4 ⟨c4,B,C,?_⟩
     rw[E]
     exact⟨o4,w4,wf,wg,b1⟩
    .have X:¬r.o.Left=0:=by simpa using X
     unfold Zo at F
     rw[Xd X]at F
     refine ZL (x:=r.o.Owner) o4 1 rfl rfl ?_
     refine ZD (λe1=>?_) λe1=>?_
     .have e1:y.Owner=r.o.Owner:=by simpa using e1
      rw[Xe e1]at F
      refine ZFk o4 w4 (by omega) λM h5 G W=>?_
      refine ZH G λH h6 o6=>?_
      have r6:Row ZEz (ob H [vi y.ID,vi y.Owner,vi y.Left] 394) ⟨sj H,1,1⟩ [⟨y.ID,y.Owner,y.Left⟩]:=Zk rfl rfl
      have L:On h6 (C::ob H [vi y.ID,vi y.Owner,vi y.Left] 394::M::ob k1 (ZF.enc r.o).cells.toList 74::B::O::l):=o6.pick [4,0,1,2,3,5] 6
      refine ZW (g:=ob H [vi y.ID,vi y.Owner,vi y.Left] 394) (s:=zg) (t:=⟨sj H,1,1⟩) L rfl wg (by decide) r6 (L.mem (by simp)) (by unfold ZAW;simp;omega) λd7 p7 n7 m7 h7 o7 w7=>?_
      exact F (zf,⟨p7,n7,m7⟩) h7 ⟨M,B,d7,o7.pick [2,3,4,0,5] 6,W,wf,w7⟩
     .have e1:¬y.Owner=r.o.Owner:=by simpa using e1
      rw[Xd e1]at F
      refine ZWe (x:=r.o) (y:=y) o4 w4 (by omega) ⟨b4,b5⟩ ⟨by omega,by omega⟩ λM h5 G W=>?_
      refine ZH G λH h6 o6=>?_
      have r6:Row ZCX (ob H (ZCX.enc (ZE4 r.o y (min r.o.Left y.Left))).cells.toList 396) ⟨sj H,1,1⟩ [ZE4 r.o y (min r.o.Left y.Left)]:=Zk rfl rfl
      have L:On h6 (B::ob H (ZCX.enc (ZE4 r.o y (min r.o.Left y.Left))).cells.toList 396::M::ob k1 (ZF.enc (ZA2 r.o (r.o.Left-min r.o.Left y.Left))).cells.toList 74::C::O::l):=On.pick (l:=ob H (ZCX.enc (ZE4 r.o y (min r.o.Left y.Left))).cells.toList 396::M::ob k1 (ZF.enc (ZA2 r.o (r.o.Left-min r.o.Left y.Left))).cells.toList 74::B::C::O::l) o6 [3,0,1,2,4,5] 6 (by decide) (by decide)
      refine ZW (g:=ob H (ZCX.enc (ZE4 r.o y (min r.o.Left y.Left))).cells.toList 396) (s:=zf) (t:=⟨sj H,1,1⟩) L rfl wf (by decide) r6 (L.mem (by simp)) (by unfold ZAW;simp;omega) λd7 p7 n7 m7 h7 o7 w7=>?_
      exact F (⟨p7,n7,m7⟩,zg) h7 ⟨M,d7,C,o7.pick [2,3,0,4,5] 6,W,w7,wg⟩
  .have:i=A.length:=by omega
   subst this
   rw[Xo]at o4 w4 wf wg b1
   exact hJ3 (zf,zg) h4 ⟨c4,B,C,o4,w4,wf,wg,b1⟩
theorem ZOl{x y c:Nat}(r:c<=1)(o:K ((((x+y+c) % 18446744073709551616:Nat):Int),(((x+y+c) / 18446744073709551616:Nat):Int))):
 ZN7 TP 378 [Value.int .u64 x,Value.int .u64 y,Value.int .u64 c] (ZV [cI .u64,cI .u64]) h K:=by
 refine⟨_,λw _=>?_,o⟩;rw[run_callFunc_extern (P:=Tryz.prog) (f:=378) (fn:=Tryz.f378) (by kernel_rfl) (by kernel_rfl) (by kernel_rfl) (by kernel_rfl) (e:=add64Entry) (by kernel_rfl),run_add64 x y c (by omega) (by omega) (by omega) (by omega)];simp only[Result.andThen];congr 2
theorem ZJ3(hf:Tryz.prog.funcs[f]?=some fn)(h1:(fn.name == "runtime.NumGoroutine")=false)(h2:fn.body.isNone=true)(h3:Extern.findNext fn=none)(h4:Extern.find fn=some (Extern.SlicesOverlaps.overlaps #[tS,tS] #[4]))(ht:Tryz.prog.underlying tS=some (.slice e))(hz:∀ w,(Go.sizeOf e).run TP w=.ok size w){b la ca lb cb off:Nat}{us:List Value}(hk:(ob k vs e1).sub h)(hb:h b=some (.cells us.toArray e2 fz))(hne:k≠b)(hu:us≠[]){K:Bool->Prop}(hq:K false):
 ZN7 TP f [Value.slice (sj k) la ca,Value.slice (some ⟨b,off,none⟩) lb cb] cB h K:=by
 refine⟨false,λw hw=>?_,hq⟩
 rw[run_callFunc_extern hf h1 h2 h3 h4]
 have ek:=hw k _ (hk k _ (ZJj k vs e1))
 have eb:=hw b _ hb
 rw[Lib.run_overlaps_apart w tS 4 e ht size hz ⟨k,0,none⟩ ⟨b,off,none⟩ la ca lb cb hne e1 e2 vs.length us.length (by simp[World.shape?,ek]) (by simp[World.shape?,eb]) (by cases us<;>simp_all) (by simp[World.frozen?,ek]) (by simp[World.frozen?,ek])]
 rfl
variable {s:Sl}{Q:Sl->Hp->Prop}
theorem ZGS{zero:cd.T}{xs:List cd.T}{x:cd.T}(o:On h (c::ob k (cd.enc x).cells.toList e2::l))(w:Own cd c s xs)(M:cd.mem=true)(hn:0<cd.n)(hz:z=cd.n)(hi:i<=xs.length)(hl:xs.length<=1000000)(hb:bytes<=1024)(hov:∀ (b off la ca lb cb:Nat) (us:List Value) (e3:TypeId) (fz:Nat×Nat) (K:Bool->Prop),h b=some (.cells us.toArray e3 fz)->k≠b->us≠[]->K false->ZN7 TP ov [Value.slice (sj k) la ca,Value.slice (some ⟨b,off,none⟩) lb cb] cB h K)(hq:∀ s' c' h',On h' (c'::l)->Own cd c' s' (xs.take i++x::xs.drop i)->Q s' h'):
 Z3 s.len s.cap (some (i:Int)) none λk1 k2=>
 ZB ((1:Int)==0) (Q s h)
   (ZB ((i:Int)==(s.len:Int)) (ZR cd e bytes s.a s.len s.cap (sj k) 1 h λp1 k3 k4 h1=>Q {a:=p1,len:=k3,cap:=k4} h1)
     (ZB (decide (i64.wrap ((s.len:Int)+(1:Int))>(s.cap:Int)))
       (Z3 s.len s.cap none (some (i:Int)) λk5 k6=>
         ZHV cd zero e bytes (Zh s.a k5 s.cap z) (k6-k5) (s.cap-k5) (i64.wrap (i64.wrap ((s.len:Int)+(1:Int))-(i:Int))) h λG k7 k8 h2=>
           Z3 k7 k8 (some (i:Int)) none λk9 k10=>
             ZBN cd (Zh G k9 k8 z) (k10-k9) (sj k) 1 h2 λn1 h3=>
              Z3 k7 k8 (some (i64.wrap ((i:Int)+(1:Int)))) none λD V=>
               Z3 s.len s.cap (some (i:Int)) none λE W=>ZBN cd (Zh G D k8 z) (V-D) (Zh s.a E s.cap z) (W-E) h3 λn2 H=>Q {a:=G,len:=k7,cap:=k8} H)
       (Z3 s.len s.cap none (some (i64.wrap ((s.len:Int)+(1:Int)))) λr B=>
         Z3 (B-r) (s.cap-r) (some (i64.wrap ((i:Int)+(1:Int)))) none λX k18=>
           ZN7 TP ov [Value.slice (sj k) 1 1,Value.slice (Zh (Zh s.a r s.cap z) X (s.cap-r) z) (k18-X) (s.cap-r-X)] cB h λt1=>
             ZB (!t1)
               (Z3 (B-r) (s.cap-r) (some (i64.wrap ((i:Int)+(1:Int)))) none λk19 k20=>
                 Z3 (B-r) (s.cap-r) (some (i:Int)) none λk21 k22=>
                   ZBN cd (Zh (Zh s.a r s.cap z) k19 (s.cap-r) z) (k20-k19) (Zh (Zh s.a r s.cap z) k21 (s.cap-r) z) (k22-k21) h λn3 h5=>
                     Z3 (B-r) (s.cap-r) (some (i:Int)) none λF Y=>
                       ZBN cd (Zh (Zh s.a r s.cap z) F (s.cap-r) z) (Y-F) (sj k) 1 h5 λn4 h6=>Q {a:=Zh s.a r s.cap z,len:=B-r,cap:=s.cap-r} h6)
               (Z3 (B-r) (s.cap-r) (some (s.len:Int)) none λk25 k26=>
                 ZBN cd (Zh (Zh s.a r s.cap z) k25 (s.cap-r) z) (k26-k25) (sj k) 1 h λn5 h7=>
                   Z3 (B-r) (s.cap-r) (some (i:Int)) none λZ k28=>
                     cx rot [Value.slice (Zh (Zh s.a r s.cap z) Z (s.cap-r) z) (k28-Z) (s.cap-r-Z),vi (1:Int)] (ZV []) h7 λu1 h8=>
                 Q {a:=Zh s.a r s.cap z,len:=B-r,cap:=s.cap-r} h8)))):=by
 have L:s.len=xs.length:=w.1;have hcap:=w.le_cap hn;have hx:Row cd (ob k (cd.enc x).cells.toList e2) ⟨sj k,1,1⟩ [x]:=Zk (by simp[ZO]) rfl;have e1:i64.wrap ((i:Int)+1)=((i+1:Nat):Int):=Z1 (by omega);have e2':i64.wrap ((s.len:Int)+1)=((s.len+1:Nat):Int):=Z1 (by omega);rw[e1,e2'];refine⟨by omega,by omega,?_⟩;refine ZU rfl ?_;refine ZD (λhe=>?_) λhne=>?_
 .have he:i=xs.length:=by
   have:(i:Int)=(s.len:Int):=by simpa using he
   omega
  subst he;refine ZW (g:=ob k (cd.enc x).cells.toList e2) (t:=⟨sj k,1,1⟩) (ys:=[x]) o M w hn hx (o.mem (by simp)) ?_ λc1 p n m h1 o1 w1=>?_
  .exact XG (Vy (Nat.succ_le_succ hl) hb) (by unfold ZAW;omega)
  .exact hq ⟨p,n,m⟩ c1 h1 (o1.sublist (XC _ (Xz _ _))) (by simpa using w1)
 ·have hlt:i<xs.length:=by
   have:¬(i:Int)=(s.len:Int):=by simpa using hne
   omega
  have ha0:s.a≠none:=by intro ha;have:=w.2;rw[ha]at this;rw[this.2]at hlt;simp at hlt
  obtain⟨a,ha⟩:=Option.ne_none_iff_exists'.1 ha0;have U:(xs.take i).length=i:=by rw[Xk];omega
  have C:(xs.drop i).length=xs.length-i:=XN;have ZFq:∀ cap',Row cd c ⟨Zh s.a i s.cap z,s.len-i,cap'⟩ (xs.drop i):=λcap'=>by have:=(w.row).cut (k:=i) (m:=s.len) (cap':=cap') (by omega) (by omega) hcap M (z:=z) hz;rw[L,XU (by simp)]at this;rwa[L]
  refine ZG (λhgt=>?_) λhle=>?_
  ·have hgt:s.cap<s.len+1:=by omega
   refine⟨by omega,by omega,?_⟩;simp only[XD,Yz];rw[ZI5];have en:i64.wrap (((s.len+1:Nat):Int)-(i:Int))=((s.len+1-i:Nat):Int):=by rw[w64 (by omega) (by omega)];omega
   rw[en];have r0:Row cd c ⟨s.a,i,s.cap⟩ (xs.take i):=(w.head M (by omega)).row;refine ZUm (g:=c) o (o.mem (by simp)) r0 (by omega) (by omega) ?_ λI O d h2 o2 w2 hnc=>?_
   .exact XG (Vy (show i+(((s.len+1-i:Nat):Int)).toNat<=1000001 by omega) hb) (by unfold ZAW;omega)
   ·have en2:i+(((s.len+1-i:Nat):Int)).toNat=s.len+1:=by omega
    rw[en2]at hnc⊢;refine⟨by omega,by omega,?_⟩;have ec:∀ j,j<O->Zh (sj I) j O z=some ((⟨I,0,none⟩:Addr).add (j*cd.n)):=λj hj=>by unfold Zh;rw[Xd (by omega),hz];rfl
    simp only[XD];rw[ec i (by omega)]
    have key:=ZIZ (g:=ob k (cd.enc x).cells.toList e2) (s:=⟨sj I,i,O⟩) (dlen:=s.len+1-i) (n:=1) (cap0:=1) (ys:=[x]) (src:=sj k) o2 M w2 (a:=⟨I,0,none⟩) rfl (by rw[show min 1 (s.len+1-i)=1 by omega];exact hx) (o2.mem (by simp)) (by rw[U];simp only[Xv];omega)
         (K:=λn1 h3=>Z3 (s.len+1) O (some ((i+1:Nat):Int)) none λD V=>Z3 s.len s.cap (some (i:Int)) none λE W=>ZBN cd (Zh (sj I) D O z) (V-D) (Zh s.a E s.cap z) (W-E) h3 λn2 H=>Q {a:=sj I,len:=s.len+1,cap:=O} H) λc3 h3 o3 w3=>?_
    .rw [U]at key;exact key
    ·refine⟨by omega,by omega,by omega,by omega,?_⟩;simp only[XD];rw[ec (i+1) (by omega)];have R:(xs.take i++[x]).length=i+1:=by rw[Xg,U];rfl
     have N:=ZIZ (g:=c) (s:=⟨sj I,(xs.take i).length+[x].length,O⟩) (dlen:=s.len+1-(i+1)) (n:=s.len-i) (cap0:=s.cap) (ys:=xs.drop i) (src:=Zh s.a i s.cap z) o3 M w3 (a:=⟨I,0,none⟩) rfl (by rw[show min (s.len-i) (s.len+1-(i+1))=s.len-i by omega];exact ZFq _) (o3.mem (by simp)) (by rw[R,C];dsimp only;omega)
          (K:=λn2 H=>Q {a:=sj I,len:=s.len+1,cap:=O} H) λc4 H o4 w4=>?_
     .rw [R]at N;exact N
     .rw [R,C,show i+1+(xs.length-i)=s.len+1 by omega,Xu]at w4;exact hq _ c4 H (o4.sublist (XC _ ((Xz _ _).trans (Xz _ _)))) w4
  ·have hcap1:s.len+1<=s.cap:=by omega
   refine⟨by omega,by omega,?_⟩;simp only[XD,Yz];rw[ZI5];refine⟨by omega,by omega,?_⟩;simp only[XD];have ec:∀ j,j<s.cap->Zh s.a j s.cap z=some (a.add (j*cd.n)):=λj hj=>by unfold Zh;rw[Xd (by omega),hz,ha];rfl
   rw[ec (i+1) (by omega)];have hwa:=w.2;rw[ha]at hwa;obtain⟨hsp,pre,rest,ZBh,e3,fz,hus,hpl,hrl,_⟩:=hwa;rw[ZA5 hsp];refine hov a.block (a.off+(i+1)*cd.n) _ _ _ _ (pre++(ZO cd xs++(rest++ZBh))) e3 fz _ ?_ ?_ ?_ ?_
   .exact o.mem (c:=c) (by simp) _ _ hus
   .intro hk;have:=(o.apart (d:=ob k (cd.enc x).cells.toList e2) (by simp)) a.block;rw[hus]at this;rw[<-hk,ZJj]at this;simp at this
   .intro ZKj;have hr0:rest.length=0:=by have:=congrArg List.length ZKj;simp only[Xg,Yd]at this;omega
    rw[hr0,Vq]at hrl;have:=Nat.eq_of_mul_eq_mul_right hn hrl;omega
   ·refine Zf rfl ?_;refine⟨by omega,by omega,by omega,by omega,?_⟩;simp only[XD];rw[ec (i+1) (by omega)];have w0:Own cd c ⟨s.a,i+1,s.cap⟩ (xs.take (i+1)):=w.head M (by omega);have A:(xs.take (i+1)).length=i+1:=by rw[Xk];omega
    have key:=ZIZ (g:=c) (s:=⟨s.a,i+1,s.cap⟩) (dlen:=s.len+1-(i+1)) (n:=s.len+1-i) (cap0:=s.cap) (ys:=xs.drop i) (src:=Zh s.a i s.cap z) o M w0 (a:=a) ha (by rw[show min (s.len+1-i) (s.len+1-(i+1))=s.len-i by omega];exact ZFq _) (o.mem (by simp)) (by rw[A,C];dsimp only;omega)
         (K:=λn3 h5=>Z3 (s.len+1) s.cap (some (i:Int)) none λF Y=>ZBN cd (Zh s.a F s.cap z) (Y-F) (sj k) 1 h5 λn4 h6=>Q {a:=s.a,len:=s.len+1,cap:=s.cap} h6) λc3 h3 o3 w3=>?_
    .rw [A]at key;exact key
    .refine ⟨by omega,by omega,?_⟩;simp only[XD];rw[ec i (by omega)];rw[A,C,show i+1+(xs.length-i)=s.len+1 by omega]at w3;refine ZN2 (g:=ob k (cd.enc x).cells.toList e2) (cap0:=1) (ys:=[x]) o3 M w3 (a:=a) ha (by rw[show min 1 (s.len+1-i)=1 by omega];exact hx) (o3.mem (by simp)) (by rw[Xg,A,C];simp only[Xv];omega) λc4 H o4 w4=>?_;refine hq _ c4 H (o4.sublist (XC _ (Xz _ _))) ?_;have e5:(xs.take (i+1)++xs.drop i).take i=xs.take i:=by rw[Wt (by omega),List.take_take];congr 1;omega
     have e6:(xs.take (i+1)++xs.drop i).drop (i+[x].length)=xs.drop i:=by rw[XF (by rw[A];simp),YT (by rw[A];simp),XV]
     rw[e5,e6]at w4;exact w4
variable {x:Ask}
theorem ZPb{xs:List Ask}(o:On h (c::ob k (Zx.enc x).cells.toList e2::l))(w:Own Zx c s xs)(D:i<=xs.length)(hl:xs.length<=1000000)(A:∀ s' B h',On h' (B::l)->Own Zx B s' (xs.take i++x::xs.drop i)->Q s' h'):
 cx 297 [Value.slice s.a s.len s.cap,vi i,Value.slice (sj k) 1 1] cSl h Q:=by
 refine c297 (s:=s) (i:=i) (t:=⟨sj k,1,1⟩) ?_;refine ZGS (cd:=Zx) (z:=10) (zero:=⟨0,0,0,0,0,0,0,0,0,0⟩) o w rfl (by decide) rfl D hl (by decide) (λb off I F L G us H fz K C r E A=>?_) A;exact ZJ3 (fn:=Tryz.f341) (tS:=46) (e:=50) (size:=10) (by kernel_rfl) (by kernel_rfl) (by kernel_rfl) (by kernel_rfl) (by kernel_rfl) (by kernel_rfl) (λw=>by kernel_rfl) (o.mem (c:=ob k (Zx.enc x).cells.toList e2) (by simp)) C r E A
theorem ZQa{xs:List Za}{x:Za}(o:On h (c::ob k (ZP.enc x).cells.toList e2::l))(w:Own ZP c s xs)(D:i<=xs.length)(hl:xs.length<=1000000)(A:∀ s' B h',On h' (B::l)->Own ZP B s' (xs.take i++x::xs.drop i)->Q s' h'):
 cx 282 [Value.slice s.a s.len s.cap,vi i,Value.slice (sj k) 1 1] cSl h Q:=by
 refine c282 (s:=s) (i:=i) (t:=⟨sj k,1,1⟩) ?_;refine ZGS (cd:=ZP) (z:=6) (zero:=⟨0,0,0,0,0,false⟩) o w rfl (by decide) rfl D hl (by decide) (λb off I F L G us H fz K C r E A=>?_) A;exact ZJ3 (fn:=Tryz.f324) (tS:=124) (e:=207) (size:=6) (by kernel_rfl) (by kernel_rfl) (by kernel_rfl) (by kernel_rfl) (by kernel_rfl) (by kernel_rfl) (λw=>by kernel_rfl) (o.mem (c:=ob k (ZP.enc x).cells.toList e2) (by simp)) C r E A
variable {xs:List Due}
theorem ZQl{x:Due}(o:On h (c::ob k (ZAs.enc x).cells.toList e2::l))(w:Own ZAs c s xs)(D:i<=xs.length)(hl:xs.length<=1000000)(A:∀ s' B h',On h' (B::l)->Own ZAs B s' (xs.take i++x::xs.drop i)->Q s' h'):
 cx 285 [Value.slice s.a s.len s.cap,vi i,Value.slice (sj k) 1 1] cSl h Q:=by
 refine c285 (s:=s) (i:=i) (t:=⟨sj k,1,1⟩) ?_;refine ZGS (cd:=ZAs) (z:=3) (zero:=⟨0,0,0⟩) o w rfl (by decide) rfl D hl (by decide) (λb off I F L G us H fz K C r E A=>?_) A;exact ZJ3 (fn:=Tryz.f328) (tS:=129) (e:=197) (size:=3) (by kernel_rfl) (by kernel_rfl) (by kernel_rfl) (by kernel_rfl) (by kernel_rfl) (by kernel_rfl) (λw=>by kernel_rfl) (o.mem (c:=ob k (ZAs.enc x).cells.toList e2) (by simp)) C r E A
theorem ZUE:(ZDi a b==0)=(a==b):=by
 unfold ZDi;by_cases h:a<b
 .rw [Xe h];rw[XA];simp;omega
 .rw [Xd h];by_cases o:b<a
  .rw [Xe o];rw[XA];simp;omega
  .rw [Xd o];rw[XA];simp;omega
theorem ZHB:ZDi a b<0↔a<b:=by unfold ZDi;split<;>(try split)<;>omega
def Srt{α:Type}(key:α->Int)(xs:List α):Prop:=xs.Pairwise λx y=>key x<key y
theorem Srt.cut{key:α->Int}{xs:List α}(B:Srt key xs)(r:j<xs.length):(∀ x∈xs.take j,key x<key xs[j])/\∀ x∈xs.drop j,key xs[j]<=key x:=by
 have w:=Vc.1 B;refine⟨λx o=>?_,λx o=>?_⟩
 .obtain ⟨m,A,rfl⟩:=YH.1 o;exact w m j (by omega) r (by omega)
 .obtain ⟨m,A,rfl⟩:=List.mem_drop_iff_getElem.1 o;rcases Vo m with h0|h0
  .subst h0;simp
  .exact Vw (w j (j+m) r (by omega) (by omega))
theorem ZOc{key:α->Int}{xs:List α}(M:Srt key xs){id:Int}(N:i<=xs.length)(I:∀ k,(∀ x∈xs.take k,ZDi (key x) id<0)->(∀ x∈xs.drop k,0<=ZDi (key x) id)->k<=xs.length->i=k):
 ((xs[i]?).map λx=>ZDi (key x) id==0).getD false=(xs.findIdx? λx=>key x==id).isSome/\(∀ j,(xs.findIdx? λx=>key x==id)=some j->i=j)/\((∀ x∈xs,key x<id)->i=xs.length):=by
 have H:∀ j,(xs.findIdx? λx=>key x==id)=some j->i=j:=by
  intro j L;obtain⟨x,A,_,B,w,_⟩:=ZAY L;have G:xs[j]=x:=by have:=Xa w;rw[A]at this;exact(YV this).symm
  have D:key xs[j]=id:=by rw[G];simpa using B
  obtain⟨c1,c2⟩:=M.cut w;refine I j (λy o=>ZHB.2 (by rw[<-D];exact c1 y o)) (λy o=>?_) (by omega);have:=c2 y o;have O:=(ZHB (a:=key y) (b:=id))
  omega
 refine⟨?_,H,λr=>I xs.length (λy o=>ZHB.2 (r y (WN o))) (λy o=>by rw[XY]at o;cases o) (Xc _)⟩;cases C:xs.findIdx? λx=>key x==id with
 | some j=>
   have E:=H j C;subst E;obtain⟨x,A,_,B,_,_⟩:=ZAY C;rw[A];show (ZDi (key x) id==0)=true;rw[ZUE];exact B
 | none=>
   have F:=WL.1 C;cases A:xs[i]? with
   | none=>rfl
   | some x=>
     show (ZDi (key x) id==0)=false;rw[ZUE];exact F x (Xn A)
def upd{α:Type}(key:α->Int)(id:Int)(f:α->α)(xs:List α):List α:=xs.map λx=>if key x=id then f x else x
theorem ZFE{key:α->Int}{xs:List α}(H:Srt key xs){id:Int}{f:α->α}{x:α}(F:(xs.findIdx? λx=>key x==id)=some j)(D:xs[j]?=some x):xs.set j (f x)=upd key id f xs:=by
 obtain⟨y,E,_,A,o,_⟩:=ZAY F;rw[D]at E;cases E;have C:=Vc.1 H;have r:xs[j]=x:=by have:=Xa o;rw[D]at this;exact(YV this).symm
 have A:key xs[j]=id:=by rw[r];simpa using A
 unfold upd;apply List.ext_getElem
 .simp
 .intro m I w;simp only[We]at w;rw[VH,List.getElem_set];by_cases B:j=m
  .subst B;rw[Xe rfl,Xe A,r]
  .rw [Xd B,Xd];intro G;rcases WB j m with h|h
   .have:=C j m o w h;omega
   .have:=C m j w o (by omega);omega
theorem upd_none{key:α->Int}{xs:List α}{id:Int}{f:α->α}(r:(xs.findIdx? λx=>key x==id)=none):upd key id f xs=xs:=by
 have o:=WL.1 r;unfold upd;conv=>rhs;rw[<-List.map_id xs]
 apply List.map_congr_left;intro x w;have:=o x w;rw[Xd (by simpa using this)];rfl
theorem ZSU(key:α->Int)(id:Int)(f:α->α)(xs:List α):(upd key id f xs).length=xs.length:=We _
theorem Srt.upd{key:α->Int}{xs:List α}(r:Srt key xs)(id:Int){f:α->α}(o:∀ x,key (f x)=key x):Srt key (upd key id f xs):=by unfold Srt at*;unfold Go.Proofs.YtkmniidiifpdgaaGreat.upd;rw[List.pairwise_map];refine List.Pairwise.imp (λ{x y} hxy=>?_) r;split<;>split<;>(try simp only[o])<;>exact hxy
abbrev ZA6:=Zv Zx 174
def ZQH:Ask:=⟨0,0,0,0,0,0,0,0,0,0⟩
def getA(xs:List Ask)(id:Int):Option Ask:=xs.find? λx=>x.ID==id
def ZKg{α:Type}(z:α):Option α->α×Bool
 | none=>(z,false)
 | some x=>(x,true)
section
variable {p:Option Addr}{xs:List Ask}{c h:Hp}{l:List Hp}{id:Int}
theorem ZJ1(o:On h (c::l))(w:ZA6 p xs c)(H:Srt Ask.ID xs)(hl:xs.length<=1000000){Q:Int×Bool->Hp->Prop}(G:∀ (i:Nat) r h',On h' (r::l)->ZA6 p xs r->i<=xs.length->(∀ j,(xs.findIdx? λx=>x.ID==id)=some j->i=j)->((∀ x∈xs,x.ID<id)->i=xs.length)->Q ((i:Int),(xs.findIdx? λx=>x.ID==id).isSome) h'):
 cx 140 [vp p,vi id] (ZV [ci,cB]) h Q:=by
 obtain⟨b,sl,d,rfl,L,C⟩:=w;refine c140 ?_;refine ZU rfl ?_;have B:=o.split L;dsimp only[ZM];refine ZL (x:=sl) B 0 rfl rfl ?_;refine ZP3 (f:=⟨223,#[],#[]⟩) (ZbR (id:=id)) B (by simp) (g:=d) (by simp) C.row hl λi E A F o2=>?_;obtain⟨e1,e2,D⟩:=ZOc (key:=Ask.ID) H A F;obtain⟨c2,I,M⟩:=Zv.close o2 C;rw[e1];exact G i c2 E I M A e2 D
theorem ZXp(o:On h (c::l))(w:ZA6 p xs c)(N:Srt Ask.ID xs)(hl:xs.length<=1000000){Q:Ask×Bool->Hp->Prop}(C:∀ B h',On h' (B::l)->ZA6 p xs B->Q (ZKg ZQH (getA xs id)) h'):
 cx 81 [vp p,vi id] (ZV [Zx,cB]) h Q:=by
 refine c81 ?_;refine ZJ1 o w N hl λi c1 G D E U L _=>?_;have r:=C c1 G D E;clear C;unfold getA at r;cases A:xs.findIdx? λx=>x.ID==id with
 | none=>
   rw[(ZBY A).1]at r;exact Zf rfl r
 | some j=>
   have:=L j A;subst this;obtain⟨x,O,I,_,M,_⟩:=ZAY A;rw[I]at r;obtain⟨b,sl,d,rfl,R,F⟩:=E;refine ZU rfl ?_;have o2:=D.split R;dsimp only[ZM];refine ZL (x:=sl) o2 0 rfl rfl ?_;exact ZN F.row (Xb i) (by omega) λa H=>ZQ F.row (o2.mem (by simp)) rfl H (i:=i) O (by rfl) r
theorem ZRs(o:On h (c::l))(w:ZA6 p xs c)(hl:xs.length<=1000000)(E:∀ s r d h',On h' (r::d::l)->ZA6 p xs r->Own Zx d s xs->Q s h'):
 cx 45 [vp p] cSl h Q:=by
 obtain⟨b,sl,d,rfl,H,D⟩:=w;refine c45 ?_;refine ZU rfl ?_;have C:=o.split H;dsimp only[ZM];refine ZL (x:=sl) C 0 rfl rfl ?_;refine ZTq C (g:=d) (by simp) D.row hl λs A B o2 I=>?_;have F:On B (ob b [sv sl] 174::d::A::l):=o2.perm ((Xt _ _ _).trans ((Xt _ _ _).cons _));obtain⟨c2,G,L⟩:=Zv.close F D;exact E s c2 A B G L I
theorem ZRy(o:On h (c::l))(w:ZA6 p xs c)(O:Srt Ask.ID xs)(hl:xs.length<=1000000){Q:Option Addr×Int->Hp->Prop}(B:∀ C h',On h' (C::l)->ZA6 p xs C->getA xs id=none->(xs.findIdx? λx=>x.ID==id)=none->Q (none,4) h')(r:∀ (i:Nat) (x:Ask) (a:Addr) (b:Nat) (sl:Sl) (d h':Hp),p=sj b->On h' (ob b [sv sl] 174::d::l)->Own Zx d sl xs->sl.a=some a->xs[i]?=some x->getA xs id=some x->(xs.findIdx? λx=>x.ID==id)=some i->Q (some (a.add (i*10)),0) h'):
 cx 226 [vp p,vi id] (ZV [cP,ci]) h Q:=by
 refine c226 ?_;refine ZJ1 o w O hl λi c1 D F G V M _=>?_;cases A:xs.findIdx? λx=>x.ID==id with
 | none=>exact Zf rfl (B c1 D F G (ZBY A).1 A)
 | some j=>
   have:=M j A;subst this;obtain⟨x,R,L,_,N,_⟩:=ZAY A;obtain⟨b,sl,d,E,U,H⟩:=G;have r:=r i x;rw[E];refine ZU rfl ?_;have o2:=F.split U;dsimp only[ZM];refine ZL (x:=sl) o2 0 rfl rfl ?_;exact ZN H.row (Xb i) (by omega) λa I=>r a b sl d D E o2 H I R L A
end
def ZZF(q u:Int)(a:Ask):Ask:={a with State:=2,Hit:=q,Until:=u}
def ZYc(a:Ask):Ask:={a with State:=1,Hit:=0,Until:=0}
def ZXh(st:Int)(a:Ask):Ask:={a with State:=st,Until:=0,Hit:=if st=4 then 0 else a.Hit}
def ZD2(xs:List Ask)(id q u:Int):List Ask×Int:=match getA xs id with
 | none=>(xs,4)
 | some a=>if a.State≠1 then (xs,11) else if q<1\/u<1 then (xs,1) else (upd Ask.ID id (ZZF q u) xs,0)
def ZG3(xs:List Ask)(id:Int):List Ask×Int:=match getA xs id with
 | none=>(xs,4)
 | some a=>if a.State≠2 then (xs,11) else (upd Ask.ID id ZYc xs,0)
def ZRe(xs:List Ask)(id st:Int):List Ask×Int:=match getA xs id with
 | none=>(xs,4)
 | some a=>if st≠3/\st≠4 then (xs,1) else if a.State=3\/a.State=4\/(st=3/\a.State≠2) then (xs,11) else (upd Ask.ID id (ZXh st) xs,0)
def ZEK(a:Ask):Bool:=a.State==1||a.State==2
def ZOA(a:Ask):Bool:=decide (a.ID>=1)&&(decide (a.Qty>=1)&&(decide (a.Client>=0)&&(decide (a.Bond>=0)&&(ZAd a.Side&&(a.Dealers != 0&&(a.State==1&&(a.Hit==0&&a.Until==0)))))))
def ZJQ(xs:List Ask)(a:Ask):List Ask×Int:=
 if (xs.findIdx? λx=>x.ID==a.ID).isSome=true\/ZOA a=false then (xs,1) else if 32<=(xs.filter ZEK).length then (xs,3) else (xs++[a],0)
theorem _root_.Go.Eng.Own.part_at{xs:List cd.T}(w:Own cd c s xs){a:Addr}(r:s.a=some a)(n:Nat):(⟨(a.add m).block,(a.add m).off+n,none⟩:Addr)=(a.add m).add n:=by
 have o:a.spot=none:=by have:=w.2;rw[r]at this;exact this.1
 rw[ZA5 o,ZCk]
section
variable {p:Option Addr}{xs:List Ask}{c h:Hp}{l:List Hp}{id:Int}
theorem ZV4{q u:Int}(o:On h (c::l))(w:ZA6 p xs c)(U:Srt Ask.ID xs)(hl:xs.length<=1000000){Q:Int->Hp->Prop}(r:∀ N h',On h' (N::l)->ZA6 p (ZD2 xs id q u).1 N->Q (ZD2 xs id q u).2 h'):
 cx 287 [vp p,vi id,vi q,vi u] ci h Q:=by
 refine c287 ?_;unfold ZD2 at r;refine ZRy o w U hl (λc1 F B w1 hn R=>?_) λi x a b sl d F L B E C G Z R=>?_
 .rw [hn]at r;exact Zf rfl (r c1 F B w1)
 ·rw[Z]at r;dsimp only at r;refine ZU rfl ?_;dsimp only[ZM];have e:=E.part_at C (m:=i*10);simp only[e];refine Zd (cd:=Zx) (cf:=ci) E.row (B.mem (by simp)) rfl C (i:=i) G rfl (k:=8) (y:=x.State) rfl ?_;refine ZD (λI=>?_) λH=>?_
  .rw [Xe (by simpa using I)]at r;obtain⟨c2,o2,M⟩:=Zv.close B E;exact r c2 F o2 (L▸M)
  .rw [Xd (by simpa using H)]at r;refine ZI (λt h'=>h'=F/\t=decide (q<1\/u<1)) ?_ λJ O=>?_
   .rintro t h' ⟨rfl,rfl⟩;refine ZG (λA=>?_) λA=>?_
    .rw [Xe A]at r;obtain⟨c2,o2,M⟩:=Zv.close B E;exact r c2 h' o2 (L▸M)
    .rw [Xd A]at r;have D:i<xs.length:=(Xi.1 G).1;refine Zz (cd:=Zx) (cf:=ci) B.swap rfl rfl E C (i:=i) (x0:=x) G (m:=i*10) rfl (k:=8) (y:=2) (x':={x with State:=2}) rfl (by decide) λc3 h3 o3 w3=>?_;refine Zz (cd:=Zx) (cf:=ci) o3 rfl rfl w3 C (i:=i) (x0:={x with State:=2}) (XM D) (m:=i*10) rfl (k:=9) (y:=q) (x':={x with State:=2,Hit:=q}) rfl (by decide) λc4 h4 o4 V=>?_;rw[WW]at V;refine Zz (cd:=Zx) (cf:=ci) o4 rfl rfl V C (i:=i) (x0:={x with State:=2,Hit:=q}) (XM D) (m:=i*10) rfl (k:=7) (y:=u) (x':=ZZF q u x) rfl (by decide) λc5 Y o5 W=>?_;rw[WW,ZFE U R G]at W;obtain⟨X,o6,w6⟩:=Zv.close o5.swap W;exact r X Y o6 (L▸w6)
   .refine ZG (λA=>O _ _ ⟨rfl,(XB (.inl A)).symm⟩) λA=>O _ _ ⟨rfl,?_⟩;exact XE.2 (by omega)
theorem ZU5(o:On h (c::l))(w:ZA6 p xs c)(N:Srt Ask.ID xs)(hl:xs.length<=1000000){Q:Int->Hp->Prop}(r:∀ I h',On h' (I::l)->ZA6 p (ZG3 xs id).1 I->Q (ZG3 xs id).2 h'):
 cx 142 [vp p,vi id] ci h Q:=by
 refine c142 ?_;unfold ZG3 at r;refine ZRy o w N hl (λc1 F C w1 X L=>?_) λi x a b sl d F M C E A D W L=>?_
 .rw [X]at r;exact Zf rfl (r c1 F C w1)
 .rw [W]at r;dsimp only at r;refine ZU rfl ?_;dsimp only[ZM];have e:=E.part_at A (m:=i*10);simp only[e];refine Zd (cd:=Zx) (cf:=ci) E.row (C.mem (by simp)) rfl A (i:=i) D rfl (k:=8) (y:=x.State) rfl ?_;refine ZD (λH=>?_) λG=>?_
  .rw [Xe (by simpa using H)]at r;obtain⟨c2,o2,w2⟩:=Zv.close C E;exact r c2 F o2 (M▸w2)
  .rw [Xd (by simpa using G)]at r;have B:i<xs.length:=(Xi.1 D).1;refine Zz (cd:=Zx) (cf:=ci) C.swap rfl rfl E A (i:=i) (x0:=x) D (m:=i*10) rfl (k:=8) (y:=1) (x':={x with State:=1}) rfl (by decide) λc3 h3 Y w3=>?_;refine Zz (cd:=Zx) (cf:=ci) Y rfl rfl w3 A (i:=i) (x0:={x with State:=1}) (XM B) (m:=i*10) rfl (k:=9) (y:=0) (x':={x with State:=1,Hit:=0}) rfl (by decide) λc4 h4 Z O=>?_;rw[WW]at O;refine Zz (cd:=Zx) (cf:=ci) Z rfl rfl O A (i:=i) (x0:={x with State:=1,Hit:=0}) (XM B) (m:=i*10) rfl (k:=7) (y:=0) (x':=ZYc x) rfl (by decide) λc5 V o5 R=>?_;rw[WW,ZFE N L D]at R;obtain⟨U,o6,w6⟩:=Zv.close o5.swap R;exact r U V o6 (M▸w6)
theorem ZZJ{st:Int}(o:On h (c::l))(w:ZA6 p xs c)(hs:Srt Ask.ID xs)(hl:xs.length<=1000000){Q:Int->Hp->Prop}(C:∀ I h',On h' (I::l)->ZA6 p (ZRe xs id st).1 I->Q (ZRe xs id st).2 h'):
 cx 143 [vp p,vi id,vi st] ci h Q:=by
 refine c143 ?_;unfold ZRe at C;refine ZRy o w hs hl (λc1 L R w1 hn Y=>?_) λi x a b sl d L Z R V M O hg Y=>?_
 .rw [hn]at C;exact Zf rfl (C c1 L R w1)
 ·rw[hg]at C;dsimp only at C;refine ZU rfl ?_;dsimp only[ZM];have e:=V.part_at M (m:=i*10);simp only[e];have G:∀ {r:Int},(∀ I h',On h' (I::l)->ZA6 p xs I->Q r h')->Q r L:=λC=>by obtain⟨c2,o2,w2⟩:=Zv.close R V;exact C c2 L o2 (Z▸w2)
  refine ZI (λt h'=>h'=L/\t=decide (st≠3/\st≠4)) ?_ λJ hJ=>?_
  ·rintro t h' ⟨rfl,rfl⟩;refine ZG (λX=>?_) λX=>?_
   .rw [Xe X]at C;exact G C
   ·rw[Xd X]at C;refine ZI (λt h2=>h2=h'/\t=decide (x.State=3\/x.State=4\/(st=3/\x.State≠2))) ?_ λJ2 E=>?_
    ·rintro t h2 ⟨rfl,rfl⟩;refine ZG (λH=>?_) λH=>?_
     .rw [Xe H]at C;exact G C
     .rw [Xd H]at C;have N:i<xs.length:=(Xi.1 O).1;refine Zz (cd:=Zx) (cf:=ci) R.swap rfl rfl V M (i:=i) (x0:=x) O (m:=i*10) rfl (k:=8) (y:=st) (x':={x with State:=st}) rfl (by decide) λc3 A o3 w3=>?_;refine Zz (cd:=Zx) (cf:=ci) o3 rfl rfl w3 M (i:=i) (x0:={x with State:=st}) (XM N) (m:=i*10) rfl (k:=7) (y:=0) (x':={x with State:=st,Until:=0}) rfl (by decide) λc4 F o4 U=>?_;rw[WW]at U;refine ZD (λB=>?_) λB=>?_
      .have B:st=4:=by simpa using B
       refine Zz (cd:=Zx) (cf:=ci) o4 rfl rfl U M (i:=i) (x0:={x with State:=st,Until:=0}) (XM N) (m:=i*10) rfl (k:=9) (y:=0) (x':=ZXh st x) (by unfold ZXh;rw[Xe B];rfl) (by decide) λc5 D o5 w5=>?_;rw[WW,ZFE hs Y O]at w5;obtain⟨W,o6,w6⟩:=Zv.close o5.swap w5;exact C W D o6 (Z▸w6)
      .have B:¬st=4:=by simpa using B
       have e5:({x with State:=st,Until:=0}:Ask)=ZXh st x:=by unfold ZXh;rw[Xd B]
       rw[e5,ZFE hs Y O]at U;obtain⟨W,o6,w6⟩:=Zv.close o4.swap U;exact C W F o6 (Z▸w6)
    .have ld:∀ {K:Int->Prop},K x.State->ZC ci ((a.add (i*10)).add 8) h' K:=λhk=>Zd (cd:=Zx) (cf:=ci) V.row (R.mem (by simp)) rfl M (i:=i) O rfl (k:=8) (y:=x.State) rfl hk;refine ld (ZD (λA=>E _ _ ⟨rfl,(XB (.inl (by simpa using A))).symm⟩) λA=>?_);refine ld (ZD (λF=>E _ _ ⟨rfl,(XB (.inr (.inl (by simpa using F)))).symm⟩) λF=>?_);have A:¬x.State=3:=by simpa using A
     have F:¬x.State=4:=by simpa using F
     refine ZD (λD=>?_) λD=>?_
     .have D:st=3:=by simpa using D
      refine ld (E _ _ ⟨rfl,?_⟩);rw[XA];simp[A,F,D]
     .have D:¬st=3:=by simpa using D
      exact E _ _ ⟨rfl,by simp[A,F,D]⟩
  .refine ZD (λA=>?_) λA=>?_
   .have A:st≠3:=by simpa using A
    exact hJ _ _ ⟨rfl,by rw[XA];simp[A]⟩
   .have A:st=3:=by simpa using A
    exact hJ _ _ ⟨rfl,by simp[A]⟩
theorem ZTT{Q:Bool->Hp->Prop}(o:Q (ZOA x) h):cx 295 [Zx.enc x] cB h Q:=by
 refine c295 ?_;unfold ZOA at o;refine ZD (λe1=>ZD (λe2=>ZD (λr=>ZD (λw=>ZDP (ZD (λA=>ZD (λB=>ZD (λC=>ZD (λD=>?_) λe=>?_) λe=>?_) λe=>?_) λe=>?_)) λe=>?_) λe=>?_) λe=>?_) λe=>?_;all_goals simp only[*,Wq,WU]at o
 all_goals exact o
theorem ZVH(o:On h (c::l))(w:ZA6 p xs c)(hl:xs.length<=1000000){Q:Int->Hp->Prop}(V:∀ I h',On h' (I::l)->ZA6 p xs I->Q (((xs.filter ZEK).length:Nat):Int) h'):
 cx 296 [vp p] ci h Q:=by
 refine c296 ?_;refine ZRs o w hl λs c1 d N M W H=>?_;have L:=H.1;refine Zc (λz h'=>∃ i:Nat,z=(((((xs.take i).filter ZEK).length:Nat):Int),(i:Int))/\i<=xs.length/\h'=N) (λz=>xs.length-z.2.toNat) ⟨0,rfl,Xh _,rfl⟩ ?_;rintro J z D r ⟨i,rfl,Z,rfl⟩
 dsimp only;refine ZG (λU=>?_) λR=>?_
 ·have E:i<xs.length:=by omega
  have a0:xs[i]?=some xs[i]:=Xa E;have A:(xs.take (i+1)).filter ZEK=(xs.take i).filter ZEK++if ZEK xs[i]=true then [xs[i]] else []:=by rw[XH,a0,WE];simp[Wh]
  have F:=Wj ZEK (xs.take i);rw[Xk]at F;rw[Z1 (n:=i) (by omega)];refine ZI (λn h'=>n=((((xs.take (i+1)).filter ZEK).length:Nat):Int)/\h'=D) ?_ λX B=>?_
  .rintro n h' ⟨rfl,rfl⟩;exact r _ _ ⟨i+1,rfl,by omega,rfl⟩ (by dsimp only;omega)
  .refine ZN H.row (Xb i) (by omega) λa O=>ZQ H.row (M.mem (by simp)) rfl O (i:=i) a0 (by rfl) ?_;refine ZI (λt h'=>t=ZEK xs[i]/\h'=D) ?_ λY C=>?_
   .rintro t h' ⟨rfl,rfl⟩;refine ZD (λG=>B _ _ ⟨?_,rfl⟩) λG=>B _ _ ⟨?_,rfl⟩
    .rw [A,Xe G,Xg,Xv];exact Z1 (by omega)
    .rw [A,Xd (by rw[G];simp),Wl]
   .refine ZD (λe1=>C _ _ ⟨?_,rfl⟩) λe1=>C _ _ ⟨?_,rfl⟩
    .unfold ZEK;rw[show (xs[i].State==1)=true from e1];rfl
    .unfold ZEK;rw[show (xs[i].State==1)=false from e1];rfl
 .have:i=xs.length:=by omega
  subst this;rw[Xo];exact V c1 D (M.sublist (XC _ (Xz _ _))) W
theorem ZYs(o:On h (c::l))(w:ZA6 p xs c)(X:Srt Ask.ID xs)(Y:∀ y∈xs,y.ID<x.ID)(hl:xs.length<=1000000){Q:Int->Hp->Prop}(r:∀ E h',On h' (E::l)->ZA6 p (ZJQ xs x).1 E->Q (ZJQ xs x).2 h'):
 cx 221 [vp p,Zx.enc x] ci h Q:=by
 refine c221 ?_;refine ZJ1 o w X hl λi c1 O H D G _ A=>?_;have G:=A Y;subst G;obtain⟨b,W⟩:=D.some;unfold ZJQ at r;refine ZI (λt h'=>h'=O/\t=decide ((xs.findIdx? λy=>y.ID==x.ID).isSome=true\/ZOA x=false)) ?_ λJ F=>?_
 ·rintro t h' ⟨rfl,rfl⟩;refine ZG (λC=>?_) λC=>?_
  .rw [Xe C]at r;exact r c1 h' H D
  .rw [Xd C]at r;refine ZVH H D hl λc2 R o2 L=>?_;refine ZG (λV=>?_) λV=>?_
   .rw [Xe (by omega)]at r;exact r c2 R o2 L
   .rw [Xd (by omega)]at r;obtain⟨b,sl,d,rfl,oc,wd⟩:=L;have I:=o2.split oc;dsimp only[ZM];refine ZL (x:=sl) I 0 rfl rfl ?_;refine ZH I λk h4 Z=>?_;refine ZPb (s:=sl) (i:=xs.length) (k:=k) (x:=x) (xs:=xs) (Z.perm (l':=d::ob k (Zx.enc x).cells.toList 50::ob b [sv sl] 174::l) ?_) wd (Xc _) hl λs5 c5 h5 o5 M=>?_
    .exact ((Xt _ _ _).cons _).trans (Xt _ _ _)
    .rw [Xo,XY]at M;refine ZX (cd:=cSl) (i:=0) (x:=s5) (vs':=[sv s5]) o5.swap rfl rfl (Xc 1) λU o6=>?_;obtain⟨N,o7,w7⟩:=Zv.close o6 M;exact r N U o7 w7
 .refine ZU (by rw[W];rfl) ?_;refine ZD (λB=>F _ _ ⟨rfl,(XB (.inl B)).symm⟩) λB=>?_;refine ZTT (F _ _ ⟨rfl,?_⟩);have B:(xs.findIdx? λy=>y.ID==x.ID).isSome=false:=B;rw[B,XA];simp
end
abbrev Z4:=Zv ZP 172
def ZNO:Za:=⟨0,0,0,0,0,false⟩
def getQ(xs:List Za)(id:Int):Option Za:=xs.find? λx=>x.ID==id
def ZIR(q:Za):Za:={q with Live:=false}
def killQ(xs:List Za)(id:Int):List Za:=upd Za.ID id ZIR xs
def ZKY(xs:List Za)(id:Int):Bool:=match getQ xs id with
 | none=>false
 | some q=>q.Live
def Zbp(q x:Za):Bool:=x.Ask==q.Ask&&(x.Dealer==q.Dealer&&x.Live)
def ZHJ(q x:Za):Za:=if Zbp q x=true then ZIR x else x
def Zbe(q:Za):Bool:=decide (q.ID<1)||(decide (q.Ask<1)||(decide (q.Price<1)||(decide (q.Dealer<0)||!q.Live)))
def ZJH(xs:List Za)(q:Za):List Za×Int:=
 if (xs.findIdx? λx=>x.ID==q.ID).isSome=true\/Zbe q=true then (xs,1) else (xs.map (ZHJ q)++[q],0)
def ZIw(xs:List Za)(id dealer:Int):List Za×Int:=match getQ xs id with
 | none=>(xs,4)
 | some q=>if q.Dealer≠dealer then (xs,5) else if q.Live=false then (xs,12) else (killQ xs id,0)
section
variable {p:Option Addr}{xs:List Za}{c h:Hp}{l:List Hp}{id:Int}
theorem ZKK(o:On h (c::l))(w:Z4 p xs c)(H:Srt Za.ID xs)(hl:xs.length<=1000000){Q:Int×Bool->Hp->Prop}(G:∀ (i:Nat) r h',On h' (r::l)->Z4 p xs r->i<=xs.length->(∀ j,(xs.findIdx? λx=>x.ID==id)=some j->i=j)->((∀ x∈xs,x.ID<id)->i=xs.length)->Q ((i:Int),(xs.findIdx? λx=>x.ID==id).isSome) h'):
 cx 141 [vp p,vi id] (ZV [ci,cB]) h Q:=by
 obtain⟨b,sl,d,rfl,L,C⟩:=w;refine c141 ?_;refine ZU rfl ?_;have B:=o.split L;dsimp only[ZM];refine ZL (x:=sl) B 0 rfl rfl ?_;refine ZP8 (f:=⟨225,#[],#[]⟩) (Zaj (id:=id)) B (by simp) (g:=d) (by simp) C.row hl λi E A F o2=>?_;obtain⟨e1,e2,D⟩:=ZOc (key:=Za.ID) H A F;obtain⟨c2,I,M⟩:=Zv.close o2 C;rw[e1];exact G i c2 E I M A e2 D
theorem ZUH(o:On h (c::l))(w:Z4 p xs c)(N:Srt Za.ID xs)(hl:xs.length<=1000000){Q:Za×Bool->Hp->Prop}(C:∀ B h',On h' (B::l)->Z4 p xs B->Q (ZKg ZNO (getQ xs id)) h'):
 cx 210 [vp p,vi id] (ZV [ZP,cB]) h Q:=by
 refine c210 ?_;refine ZKK o w N hl λi c1 G D E U L _=>?_;have r:=C c1 G D E;clear C;unfold getQ at r;cases A:xs.findIdx? λx=>x.ID==id with
 | none=>
   rw[(ZBY A).1]at r;exact Zf rfl r
 | some j=>
   have:=L j A;subst this;obtain⟨x,O,I,_,M,_⟩:=ZAY A;rw[I]at r;obtain⟨b,sl,d,rfl,R,F⟩:=E;refine ZU rfl ?_;have o2:=D.split R;dsimp only[ZM];refine ZL (x:=sl) o2 0 rfl rfl ?_;exact ZN F.row (Xb i) (by omega) λa H=>ZQ F.row (o2.mem (by simp)) rfl H (i:=i) O (by rfl) r
theorem ZNy(o:On h (c::l))(w:Z4 p xs c)(G:Srt Za.ID xs)(hl:xs.length<=1000000){Q:Bool->Hp->Prop}(r:∀ M h',On h' (M::l)->Z4 p (killQ xs id) M->Q (ZKY xs id) h'):
 cx 82 [vp p,vi id] cB h Q:=by
 refine c82 ?_;refine ZKK o w G hl λi c1 N H I hi W _=>?_;unfold killQ ZKY getQ at r;cases B:xs.findIdx? λx=>x.ID==id with
 | none=>
   rw[(ZBY B).1,upd_none (key:=Za.ID) B]at r;refine ZI (λt h'=>t=true/\h'=N) ?_ λJ F=>?_
   .rintro t h' ⟨rfl,rfl⟩;exact Zf rfl (r c1 h' H I)
   .exact Zf rfl (F _ _ ⟨rfl,rfl⟩)
 | some j=>
   have:=W j B;subst this;obtain⟨x,E,V,_,X,_⟩:=ZAY B;rw[V]at r;dsimp only at r;have L:=I;obtain⟨b,sl,d,rfl,oc,C⟩:=I;have o2:=H.split oc;refine ZI (λt h'=>t=!x.Live/\h'=N) ?_ λJ F=>?_
   .rintro t h' ⟨rfl,rfl⟩;refine ZD (λA=>?_) λA=>?_
    .have A:x.Live=false:=by simpa using A
     have e:upd Za.ID id ZIR xs=xs:=by rw[<-ZFE G B E,show ZIR x=x by unfold ZIR;rw[<-A],<-(Xi.1 E).2,WH]
     rw[e]at r;have r:=r c1 h' H L;rwa[A]at r
    .have A:x.Live=true:=by simpa using A
     dsimp only[ZM];refine ZL (x:=sl) o2 0 rfl rfl ?_;refine ZN C.row (Xb i) (by omega) λa D=>?_;rw[C.part_at D];refine Zz (cd:=ZP) (cf:=cB) o2.swap rfl rfl C D (i:=i) (x0:=x) E (m:=(i:Int).toNat*6) rfl (k:=5) (y:=false) (x':=ZIR x) rfl (by decide) λc3 U Y O=>?_;rw[ZFE G B E]at O;obtain⟨R,Z,w6⟩:=Zv.close Y.swap O;have r:=r R U Z w6;rwa[A]at r
   .refine ZU rfl ?_;dsimp only[ZM];refine ZL (x:=sl) o2 0 rfl rfl ?_;refine ZN C.row (Xb i) (by omega) λa D=>?_;rw[C.part_at D];exact Zd (cd:=ZP) (cf:=cB) C.row (o2.mem (by simp)) rfl D (i:=i) E rfl (k:=5) (y:=x.Live) rfl (F _ _ ⟨rfl,rfl⟩)
theorem ZWs{r:Int}(o:On h (c::l))(w:Z4 p xs c)(F:Srt Za.ID xs)(hl:xs.length<=1000000){Q:Int->Hp->Prop}(A:∀ L h',On h' (L::l)->Z4 p (ZIw xs id r).1 L->Q (ZIw xs id r).2 h'):
 cx 281 [vp p,vi id,vi r] ci h Q:=by
 refine c281 ?_;refine ZUH o w F hl λc1 M H I=>?_;unfold ZIw at A;cases B:getQ xs id with
 | none=>
   rw[B]at A;exact Zf rfl (A c1 M H I)
 | some q=>
   rw[B]at A;dsimp only at A;refine ZU rfl (ZD (λD=>?_) λD=>?_)
   .rw [Xe (by simpa[ZKg]using D)]at A;exact A c1 M H I
   ·rw[Xd (by simpa[ZKg]using D)]at A;refine ZNy H I F hl λc2 N o2 R=>?_;have e:ZKY xs id=q.Live:=by unfold ZKY;rw[B]
    rw[e];cases G:q.Live with
    | false=>
      rw[G,Xe rfl]at A;refine Zf rfl (A c2 N o2 ?_)
      have e:killQ xs id=xs:=by
       unfold getQ at B;cases E:xs.findIdx? λx=>x.ID==id with
       | none=>rw[(ZBY E).1]at B;cases B
       | some i=>
         obtain⟨x,O,C,_,U,_⟩:=ZAY E;rw[B]at C;cases C;unfold killQ;rw[<-ZFE F E O,show ZIR q=q by unfold ZIR;rw[<-G],<-(Xi.1 O).2,WH]
      rwa[e]at R
    | true=>
      rw[G,Xd (by simp)]at A;exact ZU rfl (A c2 N o2 R)
theorem ZNf{f:FnV}{cc:List Hp}{φ:Za->Bool}(W:Clo TP cc f (λx=>[ZP.enc x]) cB φ)(o:On h (c::l))(F:∀ p∈cc,p∈l)(w:Z4 p xs c)(hl:xs.length<=1000000)(hq:∀ s I d h',On h' (I::d::l)->Z4 p xs I->Own ZP d s (xs.filter φ)->Q s h'):cx 147 [vp p,Value.func (Fn.func f.g) f.first f.cap] cSl h Q:=by
 obtain⟨b,sl,d,rfl,oc,D⟩:=w;refine c147 ?_;refine ZU rfl ?_;have B:=o.split oc;have M:=D.1;dsimp only[ZM];refine ZL (x:=sl) B 0 rfl rfl ?_;refine Zc (λz h'=>∃ (i:Nat) (r:Hp),z.2=(i:Int)/\i<=xs.length/\On h' (r::ob b [sv sl] 172::d::l)/\Own ZP r z.1 ((xs.take i).filter φ)) (λz=>xs.length-z.2.toNat)
  ⟨0,Hp.emp,rfl,Xh _,B.emp,Own.nil _⟩ ?_
 rintro J ⟨z,zi⟩ h1 again ⟨i,r,hzi,hle,B,w1⟩
 dsimp only at hzi w1;subst hzi;dsimp only;have X:((xs.take i).filter φ).length<=i:=XG (Wj _ _) (by rw[Xk];omega);refine ZG (λab=>?_) λY=>?_
 ·have Z:i<xs.length:=by omega
  have a0:xs[i]?=some xs[i]:=Xa Z;generalize xs[i]=x at a0;have R:i64.wrap ((i:Int)+1)=((i+1:Nat):Int):=Z1 (by omega);rw[R];have A:(xs.take (i+1)).filter φ=(xs.take i).filter φ++if φ x=true then [x] else []:=by rw[XH,a0,WE];simp[Wh]
  refine ZI (λz h'=>∃ r,On h' (r::ob b [sv sl] 172::d::l)/\Own ZP r z ((xs.take (i+1)).filter φ)) ?_ λJ2 C=>?_
  .rintro z2 L ⟨E,o2,w2⟩;exact again _ _ ⟨i+1,E,rfl,by omega,o2,w2⟩ (by dsimp only;omega)
  .refine ZN D.row (Xb i) (by omega) λa V=>ZQ D.row (B.mem (by simp)) rfl V (i:=i) a0 (by rfl) ?_;refine W x h1 _ _ (λp hp=>by simp[F p hp]) B λL o2=>?_;refine ZD (λe=>?_) λe=>?_
   .rw [Xe e]at A;refine ZH o2 λk2 h3 N=>?_;refine ZW (g:=ob k2 (ZP.enc x).cells.toList 207) (s:=z) (t:=⟨sj k2,1,1⟩) (ys:=[x]) N.swap rfl w1 (by decide) (Zk (by rfl) rfl) (N.get (i:=0) rfl) ?_ λO p n m U G H=>?_
    .rw [Xv];exact XG (Xr _ (show _<=1000001 by omega)) (by decide)
    .exact C ⟨p,n,m⟩ U ⟨O,G.sublist (XC _ (Xz _ _)),by rw[A];exact H⟩
   .rw [Xd (by rw[e];simp),Wl]at A;exact C _ L ⟨r,o2,by rw[A];exact w1⟩
 .have:i=xs.length:=by omega
  subst this;rw[Xo]at w1;have o2:On h1 (ob b [sv sl] 172::d::r::l):=B.perm ((Xt _ _ _).trans ((Xt _ _ _).cons _));obtain⟨c2,G,H⟩:=Zv.close o2 D;exact hq z c2 r h1 G H w1
end
def ZPt(ask tick:Int)(x:Za):Bool:=x.Ask==ask&&(x.Live&&decide (x.Expires>tick))
def ofQ(dealer:Int)(x:Za):Bool:=x.Dealer==dealer&&x.Live
def ZJI(xs:List Za)(ask:Int):List Za:=xs.filter λx=>!(x.Ask==ask)
section
variable {p:Option Addr}{xs:List Za}{c h:Hp}{l:List Hp}{id:Int}
theorem ZWR{r:Int}(o:On h (c::l))(w:Z4 p xs c)(hl:xs.length<=1000000)(D:∀ s A d h',On h' (A::d::l)->Z4 p xs A->Own ZP d s (xs.filter (ZPt id r))->Q s h'):
 cx 214 [vp p,vi id,vi r] cSl h Q:=by
 refine c214 ?_;refine ZH o λk1 I E=>?_;refine ZH E λk2 L o2=>?_;refine ZNf (f:=⟨289,#[],#[vp (sj k1),vp (sj k2)]⟩) (ZaP (k0:=k1) (k1:=k2) (k:=id) (id:=r)) (o2.rot3) (by simp) w hl λs c3 B C F G H=>?_;exact D s c3 B C (F.sublist (XC _ (XC _ ((Xz _ _).trans (Xz _ _))))) G H
theorem Zat(o:On h (c::l))(w:Z4 p xs c)(hl:xs.length<=1000000)(C:∀ s r d h',On h' (r::d::l)->Z4 p xs r->Own ZP d s (xs.filter (ofQ id))->Q s h'):
 cx 87 [vp p,vi id] cSl h Q:=by
 refine c87 ?_;refine ZH o λk1 H D=>?_;refine ZNf (f:=⟨148,#[],#[vp (sj k1)]⟩) (ZbY (k0:=k1) (id:=id)) D.swap (by simp) w hl λs c3 A B E F G=>?_;exact C s c3 A B (E.sublist (XC _ (XC _ (Xz _ _)))) F G
theorem ZRo(o:On h (c::l))(w:Z4 p xs c)(hl:xs.length<=1000000)(V:∀ s G d h',On h' (G::d::l)->Z4 p (ZJI xs id) G->Own ci d s ((xs.filter λx=>x.Ask==id).map Za.ID)->Q s h'):
 cx 227 [vp p,vi id] cSl h Q:=by
 refine c227 ?_;refine ZH o λk1 h1 X=>?_;refine ZNf (f:=⟨298,#[],#[vp (sj k1)]⟩) (Zai (k0:=k1) (id:=id)) X.swap (by simp) w hl λs c2 E h2 o2 w2 r=>?_;generalize B:(xs.filter λx=>x.Ask==id)=ys at r;have W:ys.length<=xs.length:=by rw[<-B];exact Wj _ _
 have H:=r.1;refine Zc (λz h'=>∃ (i:Nat) (A:Hp),z.2=(i:Int)/\i<=ys.length/\On h' (A::c2::E::ob k1 [vi id] 2::l)/\Own ci A z.1 ((ys.take i).map Za.ID)) (λz=>ys.length-z.2.toNat)
  ⟨0,Hp.emp,rfl,Xh _,o2.emp,Own.nil _⟩ ?_
 rintro J ⟨z,zi⟩ h3 again ⟨i,A,hzi,hle,o3,w3⟩
 dsimp only at hzi w3;subst hzi;dsimp only;refine ZG (λU=>?_) λO=>?_
 .have R:i<ys.length:=by omega
  have a0:ys[i]?=some ys[i]:=Xa R;rw[Z1 (by omega)];refine ZN r.row (Xb i) (by omega) λa N=>ZQ r.row (o3.mem (by simp)) rfl N (i:=i) a0 (by rfl) ?_;refine ZH o3 λI h4 C=>?_;refine ZW (g:=ob I [vi ys[i].ID] 2) (s:=z) (t:=⟨sj I,1,1⟩) (ys:=[ys[i].ID]) C.swap rfl w3 (by decide) (Zk (by rfl) rfl) (C.get (i:=0) rfl) ?_ λL p n m h5 D w5=>?_
  .rw [Xv,We,Xk];exact XG (Xr _ (show _<=1000001 by omega)) (by decide)
  .refine again _ _ ⟨i+1,L,rfl,by omega,D.sublist (XC _ (Xz _ _)),?_⟩ (by dsimp only;omega);rw[XH,a0,Wo];exact w5
 .have F:i=ys.length:=by omega
  subst F;rw[Xo]at w3;obtain⟨b,sl,d,rfl,oc,wd⟩:=w2;refine Zf rfl ?_;have C:On h3 (c2::A::E::ob k1 [vi id] 2::l):=o3.swap;have D:On h3 (ob b [sv sl] 172::d::A::E::ob k1 [vi id] 2::l):=C.split oc;dsimp only[ZM];refine ZL (x:=sl) D 0 rfl rfl ?_;refine ZMn (f:=⟨300,#[],#[vp (sj k1)]⟩) (ZaL (k0:=k1) (id:=id)) D.swap (by simp) wd hl λs6 c6 h6 Y w6=>?_;refine ZX (cd:=cSl) (i:=0) (x:=s6) (vs':=[sv s6]) Y.swap rfl rfl (Xc 1) λM Z=>?_;obtain⟨c8,o8,w8⟩:=Zv.close Z w6;refine V z c8 A M (o8.sublist (XC _ (XC _ ((Xz _ _).trans (Xz _ _))))) w8 ?_;rw[B];exact w3
theorem ZX7{x:Za}(o:On h (c::l))(w:Z4 p xs c)(hs:Srt Za.ID xs)(hx:∀ y∈xs,y.ID<x.ID)(hl:xs.length<=1000000){Q:Int×Int->Hp->Prop}(L:∀ old c' h',On h' (c'::l)->Z4 p (ZJH xs x).1 c'->Q (old,(ZJH xs x).2) h'):
 cx 208 [vp p,ZP.enc x] (ZV [ci,ci]) h Q:=by
 refine c208 ?_;refine ZKK o w hs hl λi c1 R o1 w1 D _ H=>?_;have D:=H hx;subst D;unfold ZJH at L;refine ZI (λt h'=>h'=R/\t=decide ((xs.findIdx? λy=>y.ID==x.ID).isSome=true\/Zbe x=true)) ?_ λJ hJ=>?_
 ·rintro t h' ⟨rfl,rfl⟩;refine ZG (λW=>?_) λW=>?_
  .rw [Xe W]at L;exact L 0 c1 h' o1 w1
  ·rw[Xd W]at L;obtain⟨b,sl,d,rfl,oc,wd⟩:=w1;have hlen:=wd.1;have o2:=o1.split oc;dsimp only[ZM];refine ZL (x:=sl) o2 0 rfl rfl ?_;refine Zc (λz h'=>∃ (i:Nat) (d:Hp),z.2=(i:Int)/\i<=xs.length/\On h' (ob b [sv sl] 172::d::l)/\Own ZP d sl ((xs.take i).map (ZHJ x)++xs.drop i)) (λz=>xs.length-z.2.toNat)
    ⟨0,d,rfl,Xh _,o2,by simpa using wd⟩ ?_
   rintro J ⟨z,zi⟩ h3 again ⟨i,d3,hzi,hle,o3,w3⟩
   dsimp only at hzi;subst hzi;dsimp only;refine ZG (λhlt=>?_) λhge=>?_
   ·have D:i<xs.length:=by omega
    have B:((xs.take i).map (ZHJ x)).length=i:=by rw[We,Xk];omega
    have F:((xs.take i).map (ZHJ x)++xs.drop i)[i]?=some xs[i]:=by rw[XJ (by omega),B,Wz,Wr,Vq,Xa D]
    have r:(xs.take (i+1)).map (ZHJ x)++xs.drop (i+1)=((xs.take i).map (ZHJ x)++xs.drop i).set i (ZHJ x xs[i]):=by rw[XH,Xa D,Wo,Xu,Yg _ _ (by omega),B,Wz,XZ D];rfl
    rw[Z1 (by omega)];have I:((xs.take i).map (ZHJ x)++xs.drop i).length=xs.length:=by rw[Xg,B,XN];omega
    refine ZI (λn h'=>∃ d,On h' (ob b [sv sl] 172::d::l)/\Own ZP d sl ((xs.take (i+1)).map (ZHJ x)++xs.drop (i+1))) ?_ λJ2 G=>?_
    .rintro n h4 ⟨d4,Z,w4⟩;exact again _ _ ⟨i+1,d4,rfl,by omega,Z,w4⟩ (by dsimp only;omega)
    ·refine ZL (x:=sl) o3 0 rfl rfl ?_;refine ZN w3.row (Xb i) (by rw[I];omega) λa C=>?_;have e:=w3.part_at C (m:=(i:Int).toNat*6);simp only[e];refine ZI (λt h'=>h'=h3/\t=Zbp x xs[i]) ?_ λJ3 A=>?_
     ·rintro t h' ⟨rfl,rfl⟩;refine ZD (λY=>?_) λY=>?_
      .refine Zz (cd:=ZP) (cf:=cB) o3.swap rfl rfl w3 C (i:=i) (x0:=xs[i]) F (m:=(i:Int).toNat*6) rfl (k:=5) (y:=false) (x':=ZIR xs[i]) rfl (by decide) λc5 h5 U E=>?_;have O:(xs.take (i+1)).map (ZHJ x)++xs.drop (i+1)=((xs.take i).map (ZHJ x)++xs.drop i).set i (ZIR xs[i]):=by rw[r];unfold ZHJ;rw[Xe Y]
       rw[<-O]at E;have a2:((xs.take (i+1)).map (ZHJ x)++xs.drop (i+1))[i]?=some (ZIR xs[i]):=by rw[O,XM (by rw[I];omega)]
       refine Zd (cd:=ZP) (cf:=ci) E.row (U.mem (by simp)) rfl C (i:=i) a2 rfl (k:=0) (y:=xs[i].ID) rfl ?_;exact G _ h5 ⟨c5,U.swap,E⟩
      ·refine G _ h' ⟨d3,o3,?_⟩;have O:ZHJ x xs[i]=xs[i]:=by unfold ZHJ;rw[Xd (by rw[Y];simp)]
       rw[r,O]
       have e8:((xs.take i).map (ZHJ x)++xs.drop i).set i xs[i]=(xs.take i).map (ZHJ x)++xs.drop i:=by
             have:=(Xi.1 F)
             obtain⟨R,h2⟩:=this;conv=>lhs;rw[<-h2]
             exact WH R
       rw[e8];exact w3
     .unfold Zbp at A;refine Zd (cd:=ZP) (cf:=ci) w3.row (o3.mem (by simp)) rfl C (i:=i) F rfl (k:=1) (y:=xs[i].Ask) rfl ?_;refine ZD (λe1=>?_) λe1=>A _ _ ⟨rfl,by rw[e1];rfl⟩;refine Zd (cd:=ZP) (cf:=ci) w3.row (o3.mem (by simp)) rfl C (i:=i) F rfl (k:=2) (y:=xs[i].Dealer) rfl ?_;refine ZD (λe2=>?_) λe2=>A _ _ ⟨rfl,by rw[e1,e2];rfl⟩;refine Zd (cd:=ZP) (cf:=cB) w3.row (o3.mem (by simp)) rfl C (i:=i) F rfl (k:=5) (y:=xs[i].Live) rfl ?_;exact A _ _ ⟨rfl,by rw[e1,e2];rfl⟩
   .have X:i=xs.length:=by omega
    subst X;rw[Xo,XY,Wl]at w3;refine ZL (x:=sl) o3 0 rfl rfl ?_;refine ZH o3 λk h4 Z=>?_;refine ZQa (s:=sl) (i:=xs.length) (k:=k) (x:=x) (xs:=xs.map (ZHJ x)) (Z.perm (l':=d3::ob k (ZP.enc x).cells.toList 207::ob b [sv sl] 172::l) ?_) w3 (by rw[We];exact Xc _) (by rw[We];exact hl) λs5 c5 h5 U E=>?_
    .exact ((Xt _ _ _).cons _).trans (Xt _ _ _)
    .rw [XU (by simp),List.drop_of_length_le (by simp)]at E;refine ZX (cd:=cSl) (i:=0) (x:=s5) (vs':=[sv s5]) U.swap rfl rfl (Xc 1) λh6 o6=>?_;obtain⟨c7,o7,w7⟩:=Zv.close o6 E;exact L z c7 h6 o7 w7
 .obtain ⟨b,hp⟩:=w1.some;refine ZU (by rw[hp];rfl) ?_;refine ZD (λM=>hJ _ _ ⟨rfl,(XB (.inl M)).symm⟩) λM=>?_;have M:(xs.findIdx? λy=>y.ID==x.ID).isSome=false:=M;have key:∀ b,b=Zbe x->J b R:=λb hb=>hJ _ _ ⟨rfl,by rw[hb,M,XA];simp⟩;unfold Zbe at key;refine ZD (λe1=>key _ (by rw[e1];rfl)) λe1=>ZD (λe2=>key _ (by rw[e1,e2];rfl)) λe2=>ZD (λN=>key _ (by rw[e1,e2,N];rfl)) λN=>ZD (λV=>key _ (by rw[e1,e2,N,V];rfl)) λV=>key _ (by rw[e1,e2,N,V];rfl)
end
def ZG7(p:Option Addr)(n:Nat)(c:Hp):Prop:=∃ xs:List Due,Zv ZAs 176 p xs c/\xs.length<=n
section
variable {p:Option Addr}{n:Nat}{c h:Hp}{l:List Hp}{id:Int}
theorem ZYh(o:On h l){Q:Option Addr->Hp->Prop}(A:∀ p c h',On h' (c::l)->ZG7 p 0 c->Q p h'):cx 38 [] cP h Q:=by refine c38 ?_;unfold F38;refine ZH o λk r B=>?_;obtain⟨c,o2,w⟩:=Zv.new (cd:=ZAs) B;exact A _ c r o2 ⟨[],w,Xc _⟩
theorem ZN0{k:Int}(o:On h (c::l))(w:Zv ZAs 176 p xs c)(hl:xs.length<=1000000){Q:Int->Hp->Prop}(C:∀ r h',On h' (r::l)->Zv ZAs 176 p xs r->Q (ZMT (xs.findIdx? λx=>x.Kind==k&&x.ID==id)) h'):
 cx 149 [vp p,vi k,vi id] ci h Q:=by
 obtain⟨b,sl,d,rfl,G,A⟩:=w;refine c149 ?_;refine ZH (o.split G) λk1 I D=>?_;refine ZH D λk2 L o2=>?_;dsimp only[ZM];refine ZL (x:=sl) o2 2 rfl rfl ?_;refine ZRr (f:=⟨231,#[],#[vp (sj k1),vp (sj k2)]⟩) (ZaR (k0:=k1) (k1:=k2) (k:=k) (id:=id)) o2 (by simp) (g:=d) (by simp) A.row hl λB E=>?_;obtain⟨c4,F,H⟩:=Zv.close E.tail.tail A;exact C c4 B F H
theorem ZX0{x:Due}(o:On h (c::l))(w:ZG7 p n c)(hl:n<=1000000){Q:Bool->Hp->Prop}(C:∀ t r h',On h' (r::l)->ZG7 p (n+1) r->Q t h'):
 cx 209 [vp p,ZAs.enc x] cB h Q:=by
 obtain⟨xs,w,hn⟩:=w;refine c209 ?_;refine ZI (λt h'=>∃ r,On h' (r::l)/\Zv ZAs 176 p xs r) ?_ λJ H=>?_
 .rintro t h' ⟨c1,A,B⟩;refine ZD (λ_=>C _ c1 h' A ⟨xs,B,by omega⟩) λ_=>?_;obtain⟨b,sl,d,rfl,U,E⟩:=B;have o2:=A.split U;dsimp only[ZM];refine ZL (x:=sl) o2 0 rfl rfl ?_;refine ZPa (f:=⟨284,#[],#[]⟩) (tv:=x) (ZbC (b:=x)) o2 (by simp) (g:=d) (by simp) E.row (by omega) λi Z I _ D=>?_;refine ZL (x:=sl) D 0 rfl rfl ?_;refine ZH D λk h4 M=>?_;refine ZQl (s:=sl) (i:=i) (k:=k) (x:=x) (xs:=xs) (M.perm (l':=d::ob k (ZAs.enc x).cells.toList 197::ob b [sv sl] 176::l) ?_) E I (by omega) λs5 X h5 N V=>?_
  .exact ((Xt _ _ _).cons _).trans (Xt _ _ _)
  .refine ZX (cd:=cSl) (i:=0) (x:=s5) (vs':=[sv s5]) N.swap rfl rfl (Xc 1) λG O=>?_;obtain⟨F,R,W⟩:=Zv.close O V;refine C _ F G R ⟨_,W,?_⟩;simp only[Xg,XI,Xk,XN];omega
 .obtain ⟨b,L⟩:=w.some;refine ZU (by rw[L];rfl) ?_;exact ZN0 o w (by omega) λc1 Y A B=>H _ _ ⟨c1,A,B⟩
theorem ZJK{b:Nat}{sl:Sl}(o:On h (ob b [sv sl] 176::d::l))(L:Own ZAs d sl xs)(r:i<=j)(C:j<=xs.length){K:Hp->Prop}(D:∀ w h',On h' (w::l)->Zv ZAs 176 (sj b) (xs.take i++xs.drop j) w->K h'):
 cx 139 [Value.slice sl.a sl.len sl.cap,vi (i:Int),vi (j:Int)] cSl h λs h'=>ZS cSl ⟨b,0,none⟩ s h' K:=
 ZPh o.swap L r C λs5 M N E H=>ZX (cd:=cSl) (i:=0) (x:=s5) (vs':=[sv s5]) E.swap rfl rfl (Xc 1) λB F=>by obtain⟨A,G,I⟩:=Zv.close F H;exact D A B G I
theorem ZU8{k:Int}(o:On h (c::l))(w:ZG7 p n c)(hl:n<=1000000){Q:Bool->Hp->Prop}(B:∀ t r h',On h' (r::l)->ZG7 p n r->Q t h'):
 cx 89 [vp p,vi k,vi id] cB h Q:=by
 obtain⟨xs,w,H⟩:=w;refine c89 ?_;obtain⟨b,I⟩:=w.some;refine ZU (by rw[I];rfl) ?_;refine ZN0 o w (by omega) λc1 A C D=>?_;cases F:xs.findIdx? λx=>x.Kind==k&&x.ID==id with
 | none=>exact Zf rfl (B _ c1 A C ⟨xs,D,H⟩)
 | some i=>
   obtain⟨x,R,_,_,G,_⟩:=ZAY F;obtain⟨b,sl,d,rfl,M,O⟩:=D;refine ZU (Xj (by show ¬((i:Nat):Int)<0;omega)) ?_;dsimp only[ZM];have o2:=C.split M;refine ZL (x:=sl) o2 0 rfl rfl ?_;show cx 139 [Value.slice sl.a sl.len sl.cap,vi (i:Int),vi (i64.wrap ((i:Int)+1))] cSl A _;rw[Z1 (by omega)];refine ZJK o2 O (by omega) (by omega) λc3 E L N=>B _ c3 E L ⟨_,N,?_⟩;simp only[Xg,Xk,XN];omega
theorem ZWu{k:Int}(o:On h (c::l))(w:ZG7 p n c)(hl:n<=1000000)(W:∀ s (xs:List Due) E d h',On h' (E::d::l)->ZG7 p n E->Own ZAs d s xs->xs.length<=n->Q s h'):
 cx 80 [vp p,vi k] cSl h Q:=by
 obtain⟨xs,w,hn⟩:=w;obtain⟨b,sl,d,rfl,oc,A⟩:=w;refine c80 ?_;refine ZU rfl ?_;have D:=o.split oc;have H:=A.1;have G:=A.le_cap (by decide);refine Zc (λz h'=>∃ i:Nat,z=(i:Int)/\i<=xs.length/\h'=h) (λz=>xs.length-z.toNat) ⟨0,rfl,Xh _,rfl⟩ ?_;rintro J z M r ⟨i,rfl,hi,rfl⟩
 rw[Z1 (by omega)];refine ZI (λt h'=>h'=M/\(t=true->i<xs.length)) ?_ λJ2 B=>?_
 .rintro t h' ⟨rfl,X⟩;refine ZD (λe=>?_) λ_=>?_
  .have:=X e;exact r _ _ ⟨i+1,rfl,by omega,rfl⟩ (by omega)
  .dsimp only[ZM];refine ZL (x:=sl) D 0 rfl rfl ?_;refine⟨by omega,by omega,?_⟩;simp only[XD,Yz];have w0:Row ZAs d ⟨Zh sl.a 0 sl.cap 3,i,sl.cap⟩ (xs.take i):=by rw[ZI5];exact(A.head rfl (k:=i) (by omega)).row
   refine ZT7 (p0:=⟨Zh sl.a 0 sl.cap 3,i,sl.cap⟩) D (g:=d) (by simp) w0 (by rw[Xk];omega) λs3 F N Y w3=>?_;have I:On N (ob b [sv sl] 176::d::F::l):=Y.perm ((Xt _ _ _).trans ((Xt _ _ _).cons _));refine ZL (x:=sl) I 0 rfl rfl ?_;refine ZJK (i:=0) (j:=i) I A (by omega) (by omega) λL O Z w5=>W s3 _ L F O Z ⟨_,w5,?_⟩ w3 ?_
   .simp only[Xg,Xk,XN];omega
   .rw [Xk];omega
 .dsimp only[ZM];refine ZL (x:=sl) D 0 rfl rfl ?_;refine ZG (λV=>?_) λU=>B _ _ ⟨rfl,by simp⟩;have C:i<xs.length:=by omega
  refine ZL (x:=sl) D 0 rfl rfl ?_;refine ZN A.row (Xb i) (by omega) λa R=>?_;refine Zd (cd:=ZAs) (cf:=ci) A.row (D.mem (by simp)) rfl R (i:=i) (Xa C) rfl (k:=0) (y:=xs[i].Tick) rfl ?_;exact B _ _ ⟨rfl,λ_=>C⟩
end
theorem ZYr(o:0<=n)(r:n<18446744073709551616):u64.wrap n=n:=by simp[IntKind.wrap,IntKind.signed,IntKind.bits];omega
theorem Zak(h:0<=n):ZBK u64 n 32=n / 4294967296:=by show n.fdiv (2 ^ 32)=_;rw[WG _ (by decide)];rfl
theorem ZSB(o:0<=n)(r:n<4294967296):ZCe u64 n 4294967295=n:=by
 obtain⟨m,rfl⟩:=Wd o;have w:m<4294967296:=by omega
 unfold ZCe;have e:(BitVec.ofInt u64.bits (m:Int) &&& BitVec.ofInt u64.bits 4294967295).toNat=m:=by
  show (BitVec.ofInt 64 (m:Int) &&& BitVec.ofInt 64 4294967295).toNat=m;rw[VJ];have e1:(BitVec.ofInt 64 (m:Int)).toNat=m:=by show (BitVec.ofInt 64 (m:Int)).toNat=m;rw[Yj,YU];omega
  have e2:(BitVec.ofInt 64 4294967295).toNat=2 ^ 32-1:=by decide
  rw[e1,e2,YP];omega
 rw[e];exact ZYr (by omega) (by omega)
theorem ZWH(B:0<=a/\a<4294967296)(A:0<=b/\b<4294967296){Q:Int×Int->Hp->Prop}(D:Q (0,a*b) h):
 cx 364 [Value.int .u64 a,Value.int .u64 b] (ZV [cI .u64,cI .u64]) h Q:=by
 refine c364 ?_;have o:0<=a*b:=YZ B.1 A.1;have w:a*b<18446744073709551616:=by have:a*b<=4294967295*4294967295:=VA (by omega) (by omega) A.1 (by decide);omega
 refine⟨by decide,by decide,by decide,by decide,by decide,?_⟩;rw[Zak B.1,Zak A.1,ZSB B.1 B.2,ZSB A.1 A.2,show a / 4294967296=0 by omega,show b / 4294967296=0 by omega];simp only[Int.zero_mul,Int.mul_zero,ZYr o w];rw[ZYr (n:=0) (by decide) (by decide),Zak o];have r:0<=a*b / 4294967296:=Int.ediv_nonneg o (by decide);have C:a*b / 4294967296<4294967296:=by omega
 simp only[Int.zero_add];rw[ZYr r (by omega),Zak r,ZSB r C,Int.add_zero,ZYr r (by omega),Zak r];have e:a*b / 4294967296 / 4294967296=0:=by omega
 rw[e];exact D
variable {Q:ZBL×Bool->Hp->Prop}
theorem ZKC(o:0<=a/\a<4294967296)(r:0<=b/\b<4294967296)(A:Q (⟨0,a*b⟩,true) h):
 cx 332 [vi a,vi b] (ZV [Zm,cB]) h Q:=by
 refine c332 ?_;refine ZI (λt h'=>t=false/\h'=h) ?_ λJ w=>?_
 .rintro t h' ⟨rfl,rfl⟩;refine ZU rfl ?_;rw[ZYr o.1 (by omega),ZYr r.1 (by omega)];exact ZWH o r A
 .refine ZU (Xj (by omega)) (w _ _ ⟨Xj (by omega),rfl⟩)
theorem ZZV(o:0<=a/\a<4611686018427387904)(r:0<=b/\b<4611686018427387904)(w:Q (⟨0,a+b⟩,true) h):
 cx 363 [Value.agg #[Value.int .u64 0,Value.int .u64 a],Value.agg #[Value.int .u64 0,Value.int .u64 b]] (ZV [Zm,cB]) h Q:=by
 obtain⟨a,rfl⟩:=Wd o.1;obtain⟨b,rfl⟩:=Wd r.1;refine c363 (d:=⟨0,(a:Int)⟩) (e:=⟨0,(b:Int)⟩) ?_;refine ZOl (x:=a) (y:=b) (c:=0) (by decide) ?_;have e1:(a+b+0) % 18446744073709551616=a+b:=by omega
 have e2:(a+b+0) / 18446744073709551616=0:=by omega
 rw[e1,e2];refine ZOl (x:=0) (y:=0) (c:=0) (by decide) ?_;exact ZU rfl w
theorem ZTO(o:On h l){Q:Int->Hp->Prop}(A:∀ h',On h' l->Q (ZDi a b) h'):
 cx 333 [Value.agg #[Value.int .u64 0,Value.int .u64 a],Value.agg #[Value.int .u64 0,Value.int .u64 b]] ci h Q:=by
 refine c333 (d:=⟨0,a⟩) (e:=⟨0,b⟩) ?_;refine ZHW (ZHW ?_);refine ZH o λk w r=>?_;refine ZOB (p0:=⟨sj k,2,2⟩) (xs:=[ZDi 0 0,ZDi a b]) r (g:=ob k [vi (ZDi 0 0),vi (ZDi a b)] 3) (by simp) (Zk (by rfl) rfl) (by simp) ?_;have e:ZUb [ZDi 0 0,ZDi a b]=ZDi a b:=by have:ZDi 0 0=0:=rfl;rw[this];simp[ZUb];exact λh=>h.symm
 rw[e];exact A w r.tail
variable {Q:Int×Bool->Hp->Prop}
theorem ZS4(r:0<=a/\a<=9223372036854775807)(w:Q (a,true) h):
 cx 334 [Value.agg #[Value.int .u64 0,Value.int .u64 a]] (ZV [ci,cB]) h Q:=by
 refine c334 (d:=⟨0,a⟩) ?_;refine ZI (λt h'=>t=false/\h'=h) ?_ λJ o=>?_
 .rintro t h' ⟨rfl,rfl⟩;refine ZU rfl ?_;rw[w64 (by omega) r.2];exact w
 .exact ZU rfl (o _ _ ⟨Xj (by dsimp only;omega),rfl⟩)
def ZMN(a b:Int):Int×Bool:=if 0<b/\a>9223372036854775807-b then (0,false) else (a+b,true)
theorem ZUB(C:-9223372036854775808<=a/\a<=9223372036854775807)(D:0<=b/\b<=9223372036854775807)(o:Q (ZMN a b) h):
 cx 335 [vi a,vi b] (ZV [ci,cB]) h Q:=by
 refine c335 ?_;unfold ZMN at o;refine ZI (λt h'=>h'=h/\t=decide (0<b/\a>9223372036854775807-b)) ?_ λJ r=>?_
 .rintro t h' ⟨rfl,rfl⟩;refine ZG (λw=>?_) λw=>?_
  .rwa [Xe w]at o
  .rw [Xd w]at o;rw[w64 (by omega) (by omega)];exact o
 .rw [w64 (n:=9223372036854775807-b) (by omega) (by omega)];refine ZG (λA=>ZG (λB=>r _ _ ⟨rfl,(XB ⟨A,B⟩).symm⟩) λB=>ZU (Xj (by omega)) (r _ _ ⟨rfl,(Xj (by omega)).symm⟩)) λA=>ZU (Xj (by omega)) (r _ _ ⟨rfl,(Xj (by omega)).symm⟩)
def ZC3(p:Option Addr)(ps:List Z8)(us:List Int)(c:Hp):Prop:=
 ∃ (b:Nat) (s1 s2:Sl) (d1 d2:Hp),p=sj b/\On c [ob b [sv s1,sv s2] 170,d1,d2]/\Own Zu d1 s1 ps/\Own ci d2 s2 us/\us.length=ps.length/\∀ u∈us,0<=u/\u<=9223372036854775807
def ZDK(ps:List Z8)(who:Int):Option Z8:=if who<0 then none else ps[who.toNat]?
def ZEc(ps:List Z8)(who:Int):Int:=((ZDK ps who).map Z8.Role).getD 0
def ZVX(role kind:Int):Bool:=
 if kind=6\/kind=7\/kind=8 then role==1||role==2
 else if kind=9\/kind=12\/kind=13\/kind=16 then role==1
 else if kind=10\/kind=11\/kind=14\/kind=15 then role==2
 else kind==17&&role==3
def ZJd(ps:List Z8)(who dealers:Int):Int:=match ZDK ps who with
 | none=>5
 | some x=>if x.Role≠1 then 5 else if dealers=0\/ZFR .u64 dealers x.Asks≠0 then 1 else 0
def ZE1(ps:List Z8)(us:List Int)(who price qty:Int):Int×Int:=match ZDK ps who with
 | none=>(0,5)
 | some x=>if x.Role≠2 then (0,5) else if price<1\/qty<1 then (0,1) else
   if (ZMN ((us[who.toNat]?).getD 0) (price*qty)).2=false then (0,15) else if x.Cap<(ZMN ((us[who.toNat]?).getD 0) (price*qty)).1 then (0,14) else ((ZMN ((us[who.toNat]?).getD 0) (price*qty)).1,0)
def ZL4(ps:List Z8)(us:List Int)(who price qty:Int):List Int×Int:=
 if (ZE1 ps us who price qty).2=0 then (us.set who.toNat (ZE1 ps us who price qty).1,0) else (us,(ZE1 ps us who price qty).2)
theorem ZNi(r:c.sub h)(w:ZC3 p ps us c){Q:Int->Hp->Prop}(A:Q (ZEc ps who) h):cx 199 [vp p,vi who] ci h Q:=by
 obtain⟨b,s1,s2,H,L,rfl,G,C,N,M,_⟩:=w;have F:=C.1;have o:(ob b [sv s1,sv s2] 170).sub h:=Hp.sub_trans (G.mem (by simp)) r;have B:H.sub h:=Hp.sub_trans (G.mem (by simp)) r;refine c199 ?_;unfold ZEc ZDK at A;refine ZI (λt h'=>h'=h/\t=decide (who<0\/who>=ps.length)) ?_ λJ E=>?_
 ·rintro t h' ⟨rfl,rfl⟩;refine ZG (λr=>?_) λr=>?_
  .have e:((if who<0 then none else ps[who.toNat]?).map Z8.Role).getD 0=0:=by
    split
    .rfl
    .rw [XP (by omega)];rfl
   rwa[e]at A
  .rw [Xd (by omega),Xa (by omega:who.toNat<ps.length)]at A;dsimp only[ZM];refine ZK (cd:=cSl) (x:=s1) o (i:=0) rfl ?_;refine ZN C.row (by omega) (by omega) λa I=>?_;exact Zd (cd:=Zu) (cf:=ci) C.row B rfl I (i:=who.toNat) (Xa (by omega)) rfl (k:=0) (y:=ps[who.toNat].Role) rfl A
 .refine ZU rfl (ZG (λD=>E _ _ ⟨rfl,(XB (.inl D)).symm⟩) λD=>?_);dsimp only[ZM];refine ZK (cd:=cSl) (x:=s1) o (i:=0) rfl ?_;refine E _ _ ⟨rfl,?_⟩;exact XE.2 (by omega)
variable {Q:Bool->Hp->Prop}
theorem ZaA(E:c.sub h)(w:ZC3 p ps us c)(A:Q (ZVX (ZEc ps who) kind) h):cx 130 [vp p,vi who,vi kind] cB h Q:=by
 refine c130 ?_;refine ZNi E w ?_;generalize ZEc ps who=r at A;unfold ZVX at A;refine ZI (λt h'=>h'=h/\t=decide (kind=6\/kind=7\/kind=8)) ?_ λJ o=>?_
 ·rintro t h' ⟨rfl,rfl⟩;refine ZG (λB=>?_) λB=>?_
  .rw [Xe B]at A;exact ZD (λe=>by rwa[e]at A) λe=>by rwa[e]at A
  ·rw[Xd B]at A;refine ZI (λt D=>D=h'/\t=decide (kind=9\/kind=12\/kind=13\/kind=16)) ?_ λJ o=>?_
   ·rintro t h' ⟨rfl,rfl⟩;refine ZG (λB=>?_) λB=>?_
    .rwa [Xe B]at A
    .rw [Xd B]at A;refine ZI (λt D=>D=h'/\t=decide (kind=10\/kind=11\/kind=14\/kind=15)) ?_ λJ o=>?_
     .rintro t h' ⟨rfl,rfl⟩;refine ZG (λB=>?_) λB=>?_
      .rwa [Xe B]at A
      .rw [Xd B]at A;exact ZD (λe=>by rwa[e]at A) λe=>by rwa[e]at A
     .refine ZD (λe=>o _ _ ⟨rfl,?_⟩) λe=>ZD (λe2=>o _ _ ⟨rfl,?_⟩) λe2=>ZD (λC=>o _ _ ⟨rfl,?_⟩) λC=>o _ _ ⟨rfl,?_⟩;all_goals (rw[XA];simp_all)
   .refine ZD (λe=>o _ _ ⟨rfl,?_⟩) λe=>ZD (λe2=>o _ _ ⟨rfl,?_⟩) λe2=>ZD (λC=>o _ _ ⟨rfl,?_⟩) λC=>o _ _ ⟨rfl,?_⟩;all_goals (rw[XA];simp_all)
 .refine ZD (λe=>o _ _ ⟨rfl,?_⟩) λe=>ZD (λe2=>o _ _ ⟨rfl,?_⟩) λe2=>o _ _ ⟨rfl,?_⟩;all_goals (rw[XA];simp_all)
variable {x:Z8}
theorem ZI0(h:ZDK ps who=some x):ZEc ps who=x.Role:=by unfold ZEc;rw[h];rfl
theorem ZGX(h:ZDK ps who=none):ZEc ps who=0:=by unfold ZEc;rw[h];rfl
theorem ZHQ(h:ZDK ps who=some x):0<=who/\who<ps.length/\ps[who.toNat]?=some x:=by
 unfold ZDK at h;split at h
 .cases h
 .have:=(Xi.1 h).1;exact⟨by omega,by omega,h⟩
theorem ZU2(r:c.sub h)(w:ZC3 p ps us c){Q:Int->Hp->Prop}(o:Q (ZJd ps who ds) h):cx 220 [vp p,vi who,Value.int .u64 ds] ci h Q:=by
 refine c220 ?_;refine ZU (by obtain⟨b,s1,s2,H,I,rfl,_⟩:=w;rfl) ?_;refine ZNi r w ?_;unfold ZJd at o;cases A:ZDK ps who with
 | none=>
   rw[A]at o;rw[ZGX A];exact Zf rfl o
 | some x=>
   rw[A]at o;rw[ZI0 A];dsimp only at o;obtain⟨h0,L,M⟩:=ZHQ A;refine ZD (λe=>?_) λe=>?_
   .rwa [Xe (by simpa using e)]at o
   .rw [Xd (by simpa using e)]at o;refine ZI (λt h'=>h'=h/\t=decide (ds=0\/ZFR .u64 ds x.Asks≠0)) ?_ λJ D=>?_
    .rintro t h' ⟨rfl,rfl⟩;refine ZG (λr=>?_) λr=>?_
     .rwa [Xe r]at o
     .rwa [Xd r]at o
    .refine ZD (λe=>D _ _ ⟨rfl,?_⟩) λe=>?_
     .rw [XA];simp_all
     .obtain ⟨b,s1,s2,H,I,rfl,G,B,O,N,_⟩:=w;have F:=B.1;dsimp only[ZM];have C:(ob b [sv s1,sv s2] 170).sub h:=Hp.sub_trans (G.mem (by simp)) r;refine ZK (cd:=cSl) (x:=s1) C (i:=0) rfl ?_;refine ZN B.row h0 L λa E=>?_;rw[B.part_at E];refine Zd (cd:=Zu) (cf:=cI .u64) B.row (Hp.sub_trans (G.mem (by simp)) r) rfl E (i:=who.toNat) M rfl (k:=1) (y:=x.Asks) rfl (D _ _ ⟨rfl,?_⟩);rw[XA];simp_all
theorem ZSS(C:c.sub h)(w:ZC3 p ps us c)(G:price<=1000000)(Y:qty<=1000000){Q:Int×Int->Hp->Prop}(o:Q (ZE1 ps us who price qty) h):
 cx 291 [vp p,vi who,vi price,vi qty] (ZV [ci,ci]) h Q:=by
 refine c291 ?_;refine ZU (by obtain⟨b,s1,s2,U,V,rfl,_⟩:=w;rfl) ?_;refine ZNi C w ?_;unfold ZE1 at o;cases F:ZDK ps who with
 | none=>
   rw[F]at o;rw[ZGX F];exact Zf rfl o
 | some x=>
   rw[F]at o;rw[ZI0 F];dsimp only at o;obtain⟨h0,N,hx⟩:=ZHQ F;refine ZD (λe=>?_) λe=>?_
   .rwa [Xe (by simpa using e)]at o
   ·rw[Xd (by simpa using e)]at o;refine ZI (λt h'=>h'=h/\t=decide (price<1\/qty<1)) ?_ λJ W=>?_
    ·rintro t h' ⟨rfl,rfl⟩;refine ZG (λA=>?_) λA=>?_
     .rwa [Xe A]at o
     .rw [Xd A]at o;have D:0<=price*qty:=YZ (by omega) (by omega);have r:price*qty<=9223372036854775807:=Int.le_trans (VA G Y (by omega) (by decide)) (by decide);refine ZKC ⟨by omega,by omega⟩ ⟨by omega,by omega⟩ ?_;refine ZS4 ⟨D,r⟩ (ZU rfl ?_);obtain⟨b,s1,s2,U,V,rfl,O,I,R,hu,hr⟩:=w;have Z:=I.1;have ab:=R.1;have E:(ob b [sv s1,sv s2] 170).sub h':=Hp.sub_trans (O.mem (by simp)) C;have L:U.sub h':=Hp.sub_trans (O.mem (by simp)) C;have M:V.sub h':=Hp.sub_trans (O.mem (by simp)) C;have B:who.toNat<us.length:=by omega
      dsimp only[ZM];refine ZK (cd:=cSl) (x:=s2) E (i:=1) rfl ?_;refine ZN R.row h0 (by omega) λa H=>ZQ R.row M rfl H (i:=who.toNat) (Xa B) rfl ?_;have hrr:=hr us[who.toNat] (Xs B);have X:(us[who.toNat]?).getD 0=us[who.toNat]:=by rw[Xa B];rfl
      rw[X]at o;refine ZUB (by omega) ⟨D,r⟩ ?_;refine ZD (λe=>?_) λe=>?_
      .rwa [Xe (by simpa using e)]at o
      .rw [Xd (by simpa using e)]at o;refine ZK (cd:=cSl) (x:=s1) E (i:=0) rfl ?_;refine ZN I.row h0 N λa H=>?_;rw[I.part_at H];refine Zd (cd:=Zu) (cf:=ci) I.row L rfl H (i:=who.toNat) hx rfl (k:=2) (y:=x.Cap) rfl ?_;refine ZG (λC=>?_) λC=>?_
       .rwa [Xe (by omega)]at o
       .rwa [Xd (by omega)]at o
    .refine ZG (λG=>W _ _ ⟨rfl,(XB (.inl G)).symm⟩) λG=>W _ _ ⟨rfl,XE.2 (by omega)⟩
def inB(n a b:Int):Bool:=decide (a<=n/\n<=b)
def ZIt(b:Bond):Bool:=
 (inB b.Tick 1 1000000&&(inB b.Low 1 1000000&&inB b.High b.Low 1000000))&&((inB b.Lot 1 1000000&&(inB b.Min 1 1000000&&inB b.Max b.Min 1000000))&&decide (b.Max-b.Max.tmod b.Lot>=b.Min))
def ZFZ(ps:List Z8):Nat->Int
 | 0=>0
 | i+1=>match ps[i]? with
   | some x=>if x.Role=2 then orI .u64 (ZFZ ps i) (ZMa .u64 1 i) else ZFZ ps i
   | none=>ZFZ ps i
def ZPC(all:Int)(x:Z8):Bool:=
 if x.Role=1 then ZFR .u64 x.Asks all==0&&x.Cap==0
 else if x.Role=2 then x.Asks==0&&inB x.Cap 0 1099511627776
 else x.Role==3&&(x.Asks==0&&x.Cap==0)
def ZDH(bs:List Bond)(ps:List Z8)(look beat:Int):Bool:=
 inB bs.length 1 4&&(inB ps.length 1 8&&((!bs.any λb=>!ZIt b)&&((!ps.any λx=>!ZPC (ZFZ ps ps.length) x)&&(inB look 1 1000&&inB beat 1 1000))))
theorem ZJP(o:Q (inB n a b) h):cx 195 [vi n,vi a,vi b] cB h Q:=ZXe o
theorem ZLV(o:Q (inB n a b) h):cx 117 [vi n,vi a,vi b] cB h Q:=by refine c117 ?_;exact ZJ0 o
theorem ZTM{b:Bond}(w:Q (ZIt b) h):cx 119 [Zs.enc b] cB h Q:=by
 refine c119 ?_;unfold ZIt at w;generalize C:(inB b.Tick 1 1000000&&(inB b.Low 1 1000000&&inB b.High b.Low 1000000))=A at w;generalize r:(inB b.Lot 1 1000000&&(inB b.Min 1 1000000&&inB b.Max b.Min 1000000))=B at w;refine ZI (λt h'=>h'=h/\t=A) ?_ λJ o=>?_
 ·rintro t h' ⟨rfl,rfl⟩;refine ZI (λD r=>r=h'/\D=B) ?_ λJ o=>?_
  ·rintro D h' ⟨rfl,rfl⟩;refine ZD (λe=>?_) λe=>?_
   .subst e;refine ZD (λe=>?_) λe=>?_
    .subst e;simp only[Xf,inB,Xw]at r;refine⟨by omega,?_⟩;have E:0<=b.Max.tmod b.Lot:=Int.tmod_nonneg _ (by omega);have F:b.Max.tmod b.Lot<b.Lot:=by rw[YE (by omega)];exact Int.emod_lt_of_pos _ (by omega)
     rw[w64 (by omega) (by omega)];exact w
    .subst e;exact w
   .subst e;exact w
  .refine ZJP (ZD (λe=>?_) λe=>?_)
   .refine ZJP (ZD (λe2=>?_) λe2=>?_)
    .refine ZJP (o _ _ ⟨rfl,?_⟩);rw[<-r,e,e2];rfl
    .refine o _ _ ⟨rfl,?_⟩;rw[<-r,e,e2];rfl
   .refine o _ _ ⟨rfl,?_⟩;rw[<-r,e];rfl
 .refine ZJP (ZD (λe=>?_) λe=>?_)
  .refine ZJP (ZD (λe2=>?_) λe2=>?_)
   .refine ZJP (o _ _ ⟨rfl,?_⟩);rw[<-C,e,e2];rfl
   .refine o _ _ ⟨rfl,?_⟩;rw[<-C,e,e2];rfl
  .refine o _ _ ⟨rfl,?_⟩;rw[<-C,e];rfl
theorem ZZv:Clo TP [] ⟨118,#[],#[]⟩ (λx=>[Zs.enc x]) cB (λb:Bond=>!ZIt b):=by intro x h l Q r o w;refine⟨⟨Tryz.f118,_,Tryz.func118,rfl⟩,?_⟩;refine c118 ?_;exact ZTM (w h o)
theorem ZVT(o:Q (ZPC all x) h):cx 122 [Zu.enc x,Value.int .u64 all] cB h Q:=by
 refine c122 ?_;unfold ZPC at o;refine ZD (λe=>?_) λe=>?_
 .rw [Xe (by simpa using e)]at o;exact ZD (λe=>by rwa[e]at o) λe=>by rwa[e]at o
 .rw [Xd (by simpa using e)]at o;refine ZD (λe=>?_) λe=>?_
  .rw [Xe (by simpa using e)]at o;exact ZD (λe=>by rw[e]at o;exact ZLV o) λe=>by rwa[e]at o
  .rw [Xd (by simpa using e)]at o;exact ZD (λe=>by rw[e]at o;exact ZD (λe=>by rwa[e]at o) λe=>by rwa[e]at o) λe=>by rwa[e]at o
theorem Za8:Clo TP [ob k0 [Value.int .u64 all] 48] ⟨121,#[],#[vp (sj k0)]⟩ (λx=>[Zu.enc x]) cB (λx:Z8=>!ZPC all x):=by intro x h l Q r o w;refine⟨⟨Tryz.f121,_,Tryz.func121,rfl⟩,?_⟩;refine c121 ?_;have A:=o.mem (r (ob k0 [Value.int .u64 all] 48) (by simp));refine ZK (cd:=cI .u64) (x:=all) A (i:=0) rfl ?_;exact ZVT (w h o)
theorem ZQV(r:Row Zu g s ps)(F:g.sub h)(hl:ps.length<=1000){Q:Int->Hp->Prop}(I:Q (ZFZ ps ps.length) h):cx 120 [Value.slice s.a s.len s.cap] (cI .u64) h Q:=by
 refine c120 ?_;have D:=r.1;refine Zc (λz h'=>∃ i:Nat,z=(ZFZ ps i,(i:Int))/\i<=ps.length/\h'=h) (λz=>ps.length-z.2.toNat) ⟨0,rfl,Xh _,rfl⟩ ?_;rintro J z h' o ⟨i,rfl,M,rfl⟩
 dsimp only;refine ZG (λH=>?_) λG=>?_
 .have B:i<ps.length:=by omega
  have a0:ps[i]?=some ps[i]:=Xa B;have w:ZFZ ps (i+1)=if ps[i].Role=2 then orI .u64 (ZFZ ps i) (ZMa .u64 1 i) else ZFZ ps i:=by
   conv=>lhs;unfold ZFZ
   rw[a0]
  rw[Z1 (by omega)];refine ZI (λn C=>n=ZFZ ps (i+1)/\C=h') ?_ λL A=>?_
  .rintro n C ⟨rfl,rfl⟩;exact o _ _ ⟨i+1,rfl,by omega,rfl⟩ (by dsimp only;omega)
  .refine ZN r (Xb i) (by omega) λa E=>ZQ r F rfl E (i:=i) a0 (by rfl) ?_;refine ZD (λe=>⟨Xb i,A _ _ ⟨?_,rfl⟩⟩) λe=>A _ _ ⟨?_,rfl⟩
   .rw [w,Xe (by simpa using e)]
   .rw [w,Xd (by simpa using e)]
 .have:i=ps.length:=by omega
  subst this;exact I
section
variable {h:Hp}{l:List Hp}{sb sp:Sl}{gb gp:Hp}{bs:List Bond}{ps:List Z8}{look beat:Int}
theorem ZPp(o:On h l)(R:gb∈l)(rb:Row Zs gb sb bs)(L:gp∈l)(G:Row Zu gp sp ps)(N:bs.length<=1000)(H:ps.length<=1000)(r:∀ h',On h' l->Q (ZDH bs ps look beat) h'):
 cx 73 [ZAK.enc ⟨sb,sp,look,beat⟩] cB h Q:=by
 refine c73 (d:=⟨sb,sp,look,beat⟩) ?_;have D:=rb.1;have E:=G.1;unfold ZDH at r;refine ZI (λt h'=>h'=h/\t=(!inB bs.length 1 4||!inB ps.length 1 8)) ?_ λJ I=>?_
 ·rintro t h' ⟨rfl,rfl⟩;refine ZD (λe=>?_) λe=>?_
  ·have r:=r h' o;cases e1:inB bs.length 1 4 with
   | false=>rwa[e1]at r
   | true=>
     rw[e1]at r e;cases e2:inB ps.length 1 8 with
     | false=>rwa[e2]at r
     | true=>rw[e2]at e;cases e
  ·have e1:inB bs.length 1 4=true:=by
    cases e1:inB bs.length 1 4 with
    | true=>rfl
    | false=>rw[e1]at e;cases e
   have e2:inB ps.length 1 8=true:=by
    cases e2:inB ps.length 1 8 with
    | true=>rfl
    | false=>rw[e1,e2]at e;cases e
   rw[e1,e2]at r;refine ZQV G (o.mem L) H ?_;refine ZH o λk1 N U=>?_;refine ZX (cd:=cI .u64) (i:=0) (x:=ZFZ ps ps.length) (vs':=[Value.int .u64 (ZFZ ps ps.length)]) U rfl rfl (Xc 1) λH o2=>?_;refine ZMM (f:=⟨118,#[],#[]⟩) ZZv o2 (by simp) (g:=gb) (by simp[R]) rb (by omega) λO M=>?_;refine ZD (λw=>?_) λw=>?_
   .rw [w]at r;refine ZLD (f:=⟨121,#[],#[vp (sj k1)]⟩) (Za8 (k0:=k1) (all:=ZFZ ps ps.length)) M (by simp) (g:=gp) (by simp[L]) G (by omega) λC F=>?_;refine ZD (λA=>?_) λA=>?_
    .rw [A]at r;refine ZLV (ZD (λB=>?_) λB=>?_)
     .rw [B]at r;exact ZLV (r C F.tail)
     .rw [B]at r;exact r C F.tail
    .rw [A]at r;exact r C F.tail
   .rw [w]at r;exact r O M.tail
 .dsimp only;rw[D,E];refine ZLV (ZD (λe=>?_) λe=>?_)
  .exact I _ _ ⟨rfl,by rw[e];rfl⟩
  .refine ZLV (I _ _ ⟨rfl,?_⟩);rw[e];rfl
end
end Go.Proofs.YtkmniidiifpdgaaGreat
