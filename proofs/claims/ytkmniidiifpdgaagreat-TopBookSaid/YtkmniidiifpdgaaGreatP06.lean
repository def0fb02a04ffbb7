/- Made by program: of our texts what this law needs (TopAK TopAL ModO ModP ModR TopAM TopAN TopAO TopAP TopAQ TopAR TopAS TopAT TopAU TopAV TopBk TopLB RefM RefA RefB RefC RefD RefE RefF RefG RefH RefI RefJ). -/
import Derived.Test.YtkmniidiifpdgaaGreatP05
import Derived.KernelRfl
set_option linter.unusedVariables false
namespace Go.Proofs.YtkmniidiifpdgaaGreat
open Go.Eng
open IntKind (i64 u64 u8)
abbrev VI:=@List.eraseIdx_cons_succ
abbrev VV:=@List.getElem?_zipWith
variable {f:ZY}{A B N i C t n' j k1 nb:Nat}{k:DK}{st:SS×List (List Int)×List ZY×Bool}{b bs ns:List Int}{x y:LS}{S U d':DS}{Q:PUnit->Hp->Prop}{c c':DC}{h g d G G' dK gb gp ga d1 d2:Hp}{l ds:List Hp}{s who n left how price qty seq kd way beat q sd kind dealers to:Int}{m:Msg}{a bss r:List (List Int)}{P:VS->Prop}{T:VS}{dn:List Bool}{os:List Out}{R:List (List (List Int))}{l' out:List ZE}{o o':ZE}{v:VK}{p1:ZFI.T}{p sb sp pa s1 s2:Sl}{xs:List Act}{e:TypeId}{ss sls:List Sl}{α:Type}{W:Hp->Prop}{ps:List Z8}{vs:List Value}{φ:ZE->Bool}{gs:List ZQv}
def ZCC(x:LS)(bs:List Int):LS×List ZY×Bool:=
 (⟨(Z9 (x.held++bs)).2.1,x.lost+(Z9 (x.held++bs)).2.2,((Z9 (x.held++bs)).1.foldl ZAy (x.s,x.out,[],false)).1,((Z9 (x.held++bs)).1.foldl ZAy (x.s,x.out,[],false)).2.1⟩,
   ((Z9 (x.held++bs)).1.foldl ZAy (x.s,x.out,[],false)).2.2.1,((Z9 (x.held++bs)).1.foldl ZAy (x.s,x.out,[],false)).2.2.2)
inductive ZJr (who:Int):VS->List ZY->VS->Prop
 | nil {S:VS}:ZJr who S [] S
 | cons {S T U:VS} {f:ZY} {fs:List ZY}:ZSh ⟨(doD S.d who f.Seq (ZDt f)).1,S.ls⟩ (doD S.d who f.Seq (ZDt f)).2 T->ZJr who T fs U->ZJr who S (f::fs) U
def Zba(f:ZY):Prop:=I64 f.Seq/\ZFL (ZDt f)
theorem ZcF(h:wfF f):Zba f:=by unfold wfF at h;unfold Zba ZFL;simp only[ZDt,fs,Xm,XW,Ye,forall_eq_or_imp,forall_eq]at h⊢;exact⟨h.1,h.2⟩
structure HOk (A B:Nat) (k:Nat) (s0:SS) (st:SS×List (List Int)×List ZY×Bool):Prop where
 all:st.1.all=s0.all
 want:st.1.want<=s0.want+k
 beat:st.1.beat=s0.beat
 sent:st.1.sent<=s0.sent
 heard:st.1.heard<=s0.heard
 out:st.2.1.length<=256
 outs:ZDq st.2.1
 n:st.2.2.1.length<=k
 f:∀ f∈st.2.2.1,Zba f
theorem ZVr(s:SS)(x:ZY)(h:(Zt s x).2.2.2.1=true):(Zt s x).2.2.1=ZDt x:=by
 unfold Zt at h⊢;split
 .rename_i w;rw[Xe w]at h;unfold ZPA at h;split at h<;>cases h
 ·rename_i w;rw[Xd w]at h;split
  .rename_i D;rw[Xe D]at h;cases h
  .rename_i D;rw[Xd D]at h;split
   .rename_i E;rw[Xe E]at h;unfold ZYG at h;(repeat' split at h)<;>cases h
   .rename_i E;rw[Xd E]at h;unfold ZGA at h⊢;(repeat' split at h)<;>first|(cases h;done)|skip
    all_goals simp_all
theorem ZbQ{k:Nat}{s0:SS}(h:HOk A B k s0 st)(H:ZAD b)(E:∀ f∈s0.all,wfF f)(L:s0.want+k<=1000000):HOk A B (k+1) s0 (ZAy st b):=by
 have D:=ZQy st b;unfold ZAy at D⊢;cases F:ZET b with
 | none=>exact {h with want:=by have:=h.want;dsimp only;omega,n:=by have:=h.n;dsimp only;omega}
 | some x=>
   rw[F]at D;dsimp only at D⊢;have I:=ZPF H F;have t:=ZNo st.1 x;have g:=ZC1 (Zt st.1 x).2.1 ((Zt st.1 x).1,st.2.1,false);dsimp only at g;have V:=h.want;have O:=h.sent;have K:=h.heard;have M:=h.n;refine⟨by dsimp only;rw[D.1,h.all],by dsimp only;omega,by dsimp only;rw[g.1,t.1,h.beat],by dsimp only;rw[g.2.2.2.1];omega,by dsimp only;rw[g.2.2.2.2.1];omega,g.2.2.2.2.2.2 h.out,ZFu _ _ (ZSt (by rw[h.all];exact E) (by omega)) h.outs,by dsimp only;omega,?_⟩;dsimp only;split
   .rename_i e;intro f w;rcases Xx.1 w with w|w
    .exact h.f f w
    .simp only[Xl]at w;subst w;rw[ZVr st.1 x e];have:=ZcF I;exact⟨this.1,this.2⟩
   .exact h.f
theorem ZNs{A B:Nat}{s0:SS}:∀ (bs:List (List Int)) {k:Nat} {st:SS×List (List Int)×List ZY×Bool},HOk A B k s0 st->(∀ b∈bs,ZAD b)->(∀ f∈s0.all,wfF f)->s0.want+k+bs.length<=1000000->HOk A B (k+bs.length) s0 (bs.foldl ZAy st)
 | [],k,st,h,_,_,_=>h
 | b::bs,k,st,h,hb,hwf,hk=>by rw[XI]at hk;rw[Xy,XI];have:=ZNs bs (ZbQ h (hb b (by simp)) hwf (by omega)) (λx w=>hb x (by simp[w])) hwf (by omega);rwa[show k+(bs.length+1)=k+1+bs.length by omega]
theorem ZSW(h:LOk A B x)(K:ZAD bs)(V:B+bs.length<=900000):LOk A (B+bs.length) (ZCC x bs).1/\(∀ f∈(ZCC x bs).2.1,Zba f)/\(ZCC x bs).2.1.length<=B+1+bs.length:=by have D:ZAD (x.held++bs):=λb F=>(Xx.1 F).elim (h.held b) (K b);have H:=ZKc D;have E:=ZGD D;rw[Xg]at H;have I:=h.hl;have w:=ZNs (A:=A) (B:=B) (s0:=x.s) (Z9 (x.held++bs)).1 (k:=0) (st:=(x.s,x.out,[],false)) ⟨rfl,Xc _,rfl,Xc _,Xc _,h.out,h.outs,Xc _,λf L=>by cases L⟩ E.1 h.wf (by omega);rw[Vp]at w;have I:=h.hl;have hw:=w.want;have Y:=w.n;have Z:=w.sent;have X:=w.heard;have M:=h.sent;have O:=h.heard;unfold ZCC;dsimp only;refine⟨⟨E.2,by dsimp only;omega,by dsimp only;rw[w.all];exact h.wf,by dsimp only;rw[w.all];exact h.al,by dsimp only;rw[w.beat];exact h.beat,by dsimp only;omega,by dsimp only;omega,w.out,w.outs⟩,w.f,by omega⟩
theorem ZZc(i:WOk N S)(f:FOk S)(D:N<=9000)(id:Int):I64 (ZKg ZQH (getA S.asks id)).1.ID/\I64 (ZKg ZQH (getA S.asks id)).1.Hit:=by
 cases h:getA S.asks id with
 | none=>exact⟨ZGG,ZGG⟩
 | some a=>
   have w:=(ZDk h).1;exact⟨(ZJW i D w).1,(f.ao a w).2.2⟩
theorem ZGJ(a:Z7 k S h l)(i:WOk N S)(f:FOk S)(hN:N<=9000){Q:Sl->Hp->Prop}(hq:∀ T s outs d h',Z7 k T h' (d::l)->Own ZCH d s outs->ZEB {S with now:=i64.wrap (S.now+1)} T->WOk N T->FOk T->ZED outs->(∀ o∈outs,ZCF o)->outs.length<=20000->Q s h'):
 cx 50 [vp k.p] cSl h Q:=by
 refine c50 ?_;refine ZU rfl ?_;refine a.new λk1 h1 a1=>?_;obtain⟨D,o1,w1⟩:=a1;obtain⟨o2,o3⟩:=On.joined (cs:=[Go.Eng.ob k1 [vi 0,vi 0,Value.slice none 0 0] 191,Hp.emp]) (l:=D::l) ((o1.emp).pick [2,0,1] 3);have a2:Has k k1 0 (ZBU S) h1 l:=⟨_,⟨⟨none,0,0⟩,Hp.emp,o3,Own.nil _⟩,D,o2.swap,w1⟩
 dsimp only[ZM,DK.p];refine ZK (cd:=ci) (x:=S.now) a2.ob (i:=4) rfl ?_;obtain⟨C,wc,a2⟩:=a2;refine a2.setNow λh3 a3=>?_;have i3:WOk N {S with now:=i64.wrap (S.now+1)}:={i with now:=ZDw _}
 have f3:FOk {S with now:=i64.wrap (S.now+1)}:={f with bo:=f.bo}
 have a3:Z7 k {S with now:=i64.wrap (S.now+1)} h3 (C::l):=a3;generalize hS3:({S with now:=i64.wrap (S.now+1)}:DS)=H at*;have hnow:H.now=i64.wrap (S.now+1):=by rw[<-hS3]
 refine ZK (cd:=cP) (x:=k.pd) a3.ob (i:=9) rfl ?_;refine ZK (cd:=ci) (x:=H.now) a3.ob (i:=4) rfl ?_;obtain⟨cd,R,o4,w4,cl⟩:=a3.dues;have hd:=i3.due (by omega);have hd3:=i3.l3;refine ZWu o4 w4 hd λs5 xs c5 L h5 o5 w5 M hxl=>?_;have a5:=cl h5 c5 _ H.due (o5.pick [0,2,1] 3) w5;have a5:Z7 k H h5 (L::C::l):=a5;have a5:Has k k1 0 ⟨H,0,[]⟩ h5 (L::l):=⟨C,wc,a5.perm (Xt _ _ _)⟩
 have hlen:=M.1;refine Zc (λz h'=>∃ (j:Nat) (c:DC),z=(j:Int)/\j<=xs.length/\Has k k1 0 c h' (L::l)/\ZEB H c.d/\WOk N c.d/\COk N c/\ZED c.outs/\c.outs.length<=j) (λz=>xs.length-z.toNat)
  ⟨0,⟨H,0,[]⟩,rfl,Xh _,a5,ZEB.refl _,i3,⟨i3,f3,(λo ho=>by cases ho),ZGG⟩,(λo ho=>by cases ho),Xc _⟩ ?_
 rintro J z h6 K ⟨j,c,rfl,hj,a6,X,w,E,q6,l6⟩
 refine ZG (λhlt=>?_) λhge=>?_
 ·have hj':j<xs.length:=by omega
  have a0:xs[j]?=some xs[j]:=Xa hj';refine ZN M.row (Xb j) (by omega) λp hp=>ZQ M.row (a6.sub (by simp)) rfl hp (i:=j) a0 (by rfl) ?_;refine ZK (cd:=cP) (x:=k.pa) a6.ob (i:=8) rfl ?_;obtain⟨C6,wc6,a6⟩:=a6;refine a6.getA w (by omega) λh7 I=>?_;have I:Has k k1 0 c h7 (L::l):=⟨C6,wc6,I⟩
  have z6:=ZZc w E.f hN xs[j].ID;generalize ZKg ZQH (getA c.d.asks xs[j].ID)=O at*;rw[Z1 (by omega)];refine ZI (λ_ h'=>∃ c:DC,Has k k1 0 c h' (L::l)/\ZEB H c.d/\WOk N c.d/\COk N c/\ZED c.outs/\c.outs.length<=j+1) ?_ λJ2 F=>?_
  .rintro _ h' ⟨c',a',g',i',k',q',l'⟩;exact K _ _ ⟨j+1,c',rfl,by omega,a',g',i',k',q',l'⟩ (by omega)
  .refine ZD (λ_=>?_) λ_=>?_
   .refine ZK (cd:=cP) (x:=k.pq) I.ob (i:=7) rfl ?_;obtain⟨C7,wc7,I⟩:=I;refine I.killQ w (by omega) λt h8 V=>?_;exact F _ _ ⟨{c with d:={c.d with quotes:=killQ c.d.quotes xs[j].ID}},⟨C7,wc7,V⟩,X.trans (ZEB.quotes _ _),w.kill _,⟨w.kill _,{E.f with qo:=ZJz E.f.qo},E.o,E.i⟩,q6,by dsimp only;omega⟩
   .refine ZI (λt h'=>Has k k1 0 c h' (L::l)) ?_ λJ4 Z=>ZD (λ_=>Z _ _ I) λ_=>Z _ _ I;rintro t h8 V;refine ZD (λ_=>?_) λ_=>?_
    .have g:=ZKO (c:=c) O.1 w;exact ZHS (x:=O.1) V w (by omega) (by omega) λh9 a9=>F _ _ ⟨_,a9,X.trans g.1,g.2.1,ZJG E O.1 z6.1 z6.2,g.2.2.1 q6,by rw[g.2.2.2];omega⟩
    .refine ZI (λt h'=>Has k k1 0 c h' (L::l)) ?_ λJ3 Y=>ZD (λ_=>Y _ _ V) λ_=>Y _ _ V;rintro t h9 a9;refine ZD (λ_=>?_) λ_=>F _ _ ⟨c,a9,X,w,E,q6,by omega⟩;have g:=ZMH (c:=c) O.1 w;exact ZNV (x:=O.1) a9 w (by omega) (by omega) λh10 a10=>F _ _ ⟨_,a10,X.trans g.1,g.2.1,ZRJ E O.1 z6.1,g.2.2.1 q6,by rw[g.2.2.2];omega⟩
 .obtain ⟨C6,⟨s,d,oc,wd⟩,a6⟩:=a6;have hC:=a6.sub (g:=C6) (by simp);have hob:(Go.Eng.ob k1 [vi 0,vi c.id,sv s] 191).sub h6:=Hp.sub_trans (oc.mem (by simp)) hC;refine ZK (cd:=cSl) (x:=s) hob (i:=2) rfl ?_;obtain⟨D6,o7,w7⟩:=a6;have o8:On h6 (C6::D6::l):=o7.pick [1,0] 3;have o9:On h6 (Go.Eng.ob k1 [vi 0,vi c.id,sv s] 191::d::D6::l):=o8.split oc;exact hq c.d s c.outs d h6 ⟨D6,o9.pick [2,1] 3,w7⟩ wd X w E.f q6 E.o (by omega)
def ZPS(x:LS):Nat:=x.held.length+x.lost
def pot(ls:List LS):Nat:=(ls.map ZPS).sum
theorem ZUQ(φ:LS->Nat):∀ (ls:List LS) (i:Nat) (x y:LS),ls[i]?=some x->((ls.set i y).map φ).sum+φ x=(ls.map φ).sum+φ y
 | [],i,x,y,h=>by simp at h
 | a::ls,0,x,y,h=>by
   simp only[YQ,XT]at h;subst h;simp only[YD,XS,WV];omega
 | a::ls,i+1,x,y,h=>by simp only[Yh]at h;have:=ZUQ φ ls i x y h;simp only[List.set_cons_succ,XS,WV];omega
theorem ZJ2{ls:List LS}(h:ls[i]?=some x):pot (ls.set i y)+ZPS x=pot ls+ZPS y:=ZUQ ZPS ls i x y h
theorem ZNx{s:SS}(h:(ZAt s m).1.up=true):s.up=true:=by unfold ZAt at h;split at h<;>exact h
theorem ZaQ(h:(lsV x m).s.up=true):x.s.up=true:=by
 unfold lsV ZFb at h;dsimp only at h;split at h
 .exact ZNx ((ZC1 [(ZAt x.s m).2.1] ((ZAt x.s m).1,x.out,false)).2.2.2.2.2.1 h)
 .exact ZNx h
def ZEF(a b:List LS):Prop:=b.length=a.length/\pot b=pot a/\∀ (i:Nat) (y:LS),b[i]?=some y->y.s.up=true->∃ x,a[i]?=some x/\x.s.up=true
theorem ZEF.refl(a:List LS):ZEF a a:=⟨rfl,rfl,λi y h w=>⟨y,h,w⟩⟩
theorem ZEF.trans{a b c:List LS}(h:ZEF a b)(g:ZEF b c):ZEF a c:=⟨g.1.trans h.1,g.2.1.trans h.2.1,λi y F D=>by
 obtain⟨x,E,w⟩:=g.2.2 i y F D;exact h.2.2 i x E w⟩
theorem ZNF(st:List LS×List Bool)(o:Out):ZEF st.1 (ZBX st o).1:=by
 unfold ZBX;split
 .rename_i I;have w:o.To.toNat<st.1.length:=by omega
  have E:st.1[o.To.toNat]?=some st.1[o.To.toNat]:=Xa w;rw[E];dsimp only;generalize st.1[o.To.toNat]=x at*;refine⟨by rw[Xp],?_,λi y D H=>?_⟩
  .have:=ZJ2 (y:=lsV x (ZKk o)) E;have e:ZPS (lsV x (ZKk o))=ZPS x:=rfl;omega
  .by_cases F:o.To.toNat=i
   .subst F;rw[XM w]at D;cases D;exact⟨x,E,ZaQ H⟩
   .rw [WZ F]at D;exact⟨y,D,H⟩
 .exact ZEF.refl _
theorem ZGl:∀ (os:List Out) (st:List LS×List Bool),ZEF st.1 (os.foldl ZBX st).1
 | [],st=>ZEF.refl _
 | o::os,st=>by rw[Xy];exact(ZNF st o).trans (ZGl os (ZBX st o))
theorem ZNl(ls:List LS)(os:List Out):ZEF ls (ZBJ ls os).1:=ZGl os _
theorem ZLX{P:VS->Prop}(D:∀ (S:VS) (os:List Out),P S->P ⟨S.d,(ZBJ S.ls os).1⟩)(w:∀ (S:VS) (who:Int),P S->P ⟨(ZAV S.d who).1,S.ls⟩):∀ (ps:List (Bool×Nat)) (acc:VS×List Bool),P acc.1->P (ps.foldl ZAj acc).1
 | [],acc,h=>h
 | p::ps,acc,h=>by
   rw[Xy];refine ZLX D w ps _ ?_;unfold ZAj;split
   .exact D ⟨(ZAV acc.1.d (p.2:Int)).1,acc.1.ls⟩ _ (w acc.1 _ h)
   .exact h
theorem ZTN(E:∀ (S:VS) (os:List Out),P S->P ⟨S.d,(ZBJ S.ls os).1⟩)(w:∀ (S:VS) (who:Int),P S->P ⟨(ZAV S.d who).1,S.ls⟩){S:VS}(h:ZFA S dn T):P S->P T:=by
 induction h with
 | done _=>exact id
 | @step S S' dn e t ih=>exact λD=>ih (ZLX E w dn.zipIdx (S,List.replicate S.ls.length false) D)
theorem ZVp(w:∀ (S:VS) (os:List Out),P S->P ⟨S.d,(ZBJ S.ls os).1⟩)(D:∀ (S:VS) (who:Int),P S->P ⟨(ZAV S.d who).1,S.ls⟩){S:VS}(h:ZSh S os T)(E:P S):P T:=
 ZTN w D h (w S os E)
theorem ZDZ{S:VS}(h:ZSh S os T):ZEF S.ls T.ls:=
 ZVp (P:=λX=>ZEF S.ls X.ls) (λX os w=>w.trans (ZNl X.ls os)) (λX who w=>w) h (ZEF.refl _)
def ZXG(a b:List (List ZE)):Prop:=b.length=a.length/\∀ (k:Nat) (y:List ZE),b[k]?=some y->∃ x,a[k]?=some x/\y.Sublist x
theorem ZIX{who:Int}{R:List ZE->List ZE->Prop}:∀ (bs:List (List ZE)) (acc:List (List ZE)×List Out),(∀ b∈bs,∀ os,R b (ZAM who (b,os)).1)->
 ∃ w,(bs.foldl (ZAv who) acc).1=acc.1++w/\w.length=bs.length/\∀ (k:Nat) (z:List ZE),w[k]?=some z->∃ b,bs[k]?=some b/\R b z
 | [],acc,_=>⟨[],by simp,rfl,λk z h=>by simp at h⟩
 | b::bs,acc,h=>by
   obtain⟨w,e,hl,F⟩:=ZIX (R:=R) bs (ZAv who acc b) λx E=>h x (by simp[E]);refine⟨(ZAM who (b,acc.2)).1::w,?_,by simp[hl],λk z D=>?_⟩
   .rw [Xy,e];show (acc.1++[_])++w=_;rw[Xu];rfl
   ·cases k with
    | zero=>
      simp only[YQ,XT]at D;exact⟨b,rfl,D▸h b (by simp) acc.2⟩
    | succ k=>
      simp only[Yh]at D;exact F k z D
theorem ZOE{R:List ZE->List ZE->Prop}(h:∀ b∈S.books,∀ os,R b (ZAM who (b,os)).1):
 (ZAV S who).1.books.length=S.books.length/\∀ (k:Nat) (z:List ZE),(ZAV S who).1.books[k]?=some z->∃ b,S.books[k]?=some b/\R b z:=by
 obtain⟨E,e,hl,D⟩:=ZIX (R:=R) S.books ([],[]) h;have w:(ZAV S who).1.books=E:=by rw[(ZHi S who).1];unfold ZCZ;rw[e];rfl
 rw[w];exact⟨hl,D⟩
theorem ZNq(S:DS)(who:Int):ZXG S.books (ZAV S who).1.books:=ZOE λb _ os=>(ZBl who (b,os)).1
theorem ZHu:∀ (qs:List Za) (S:DS),(qs.foldl goneQ S)={S with quotes:=(qs.foldl goneQ S).quotes}
 | [],S=>rfl
 | q::qs,S=>by rw[Xy,ZHu qs (goneQ S q)];unfold goneQ;split<;>rfl
theorem ZH5(S:DS)(who:Int):(ZAV S who).1={S with books:=(ZAV S who).1.books,quotes:=(ZAV S who).1.quotes}:=by rw[(ZHi S who).1];exact ZHu _ {S with books:=(ZCZ who S.books).1}
structure ZQx (S T:DS):Prop where
 books:ZXG S.books T.books
 rest:T={S with books:=T.books,quotes:=T.quotes}
theorem ZK6(S:DS)(who:Int):ZQx S (ZAV S who).1:=⟨ZNq S who,ZH5 S who⟩
def ZOo(S:VS)(who:Nat)(x:LS)(bs:List Int)(T:VS):Prop:=
 ∃ (U:VS) (y:LS),ZJr (who:Int) ⟨S.d,S.ls.set who (ZCC x bs).1⟩ (ZCC x bs).2.1 U/\U.ls[who]?=some y/\
  (if (ZCC x bs).2.2=true\/((ZCC x bs).1.s.up=true/\y.s.up=false) then ZSh ⟨(ZAV U.d (who:Int)).1,U.ls⟩ (ZAV U.d (who:Int)).2 T else T=U)
def ZFF(x:LS):LS×Bool:=(⟨x.held,x.lost,(ZFp x.s x.out).1,(ZFp x.s x.out).2.1⟩,(ZFp x.s x.out).2.2)
inductive ZER (S0:VS):Nat->VS->Prop
 | zero:ZER S0 0 S0
 | stay {j:Nat} {S:VS} {x:LS}:ZER S0 j S->S.ls[j]?=some x->(ZFF x).2=false->ZER S0 (j+1) ⟨S.d,S.ls.set j (ZFF x).1⟩
 | down {j:Nat} {S T:VS} {x:LS}:ZER S0 j S->S.ls[j]?=some x->(ZFF x).2=true->ZSh ⟨(ZAV S.d (j:Int)).1,S.ls.set j (ZFF x).1⟩ (ZAV S.d (j:Int)).2 T->ZER S0 (j+1) T
def ZUN(S T:VS):Prop:=∃ (d:DS) (os:List Out) (U:VS),ZEB {S.d with now:=i64.wrap (S.d.now+1)} d/\ZED os/\ZSh ⟨d,S.ls⟩ os U/\ZER U S.ls.length T
def ZPi(x:LS):LS×Bool:=({x with s:=(ZM8 x.s).1},(ZM8 x.s).2)
def ZZo(S:VS)(who:Nat)(x:LS)(T:VS):Prop:=
 if (ZPi x).2=true then ZSh ⟨(ZAV S.d (who:Int)).1,S.ls.set who (ZPi x).1⟩ (ZAV S.d (who:Int)).2 T else T=⟨S.d,S.ls.set who (ZPi x).1⟩
def DoR(S:VS)(kind who:Int)(bs:List Int)(T:VS)(r:Bool):Prop:=
 if kind=2 then r=true/\ZUN S T
 else if ¬(0<=who/\who<S.ls.length) then r=false/\T=S
 else if kind=1 then r=true/\∃ x,S.ls[who.toNat]?=some x/\ZOo S who.toNat x bs T
 else if kind=3 then r=true/\∃ x,S.ls[who.toNat]?=some x/\ZZo S who.toNat x T
 else r=false/\T=S
def ZM0(n t:Nat)(S:VS):Prop:=∃ N,VOk N (81000*N+1000000*n) (t+8*n) S/\N+pot S.ls<=t
structure ZCY (n:Int) (l:List ZE):Prop where
 ids:(l.map λx=>x.ID).Nodup
 ok:∀ x∈l,Zn x=true/\x.Owner<n
 unc:∀ x∈l,∀ y∈l,x.Side=1->y.Side=2->x.Price<y.Price
theorem ZCY.nil(n:Int):ZCY n []:=⟨by simp,by simp,by simp⟩
variable {l:List ZE}
theorem ZCY.sub(h:ZCY n l)(w:l'.Sublist l):ZCY n l':=
 ⟨h.ids.sublist (w.map _),λx D=>h.ok x (w.subset D),λx D y E=>h.unc x (w.subset D) y (w.subset E)⟩
theorem ZIJ(h:Zn o=true)(H:1<=left)(I:left<=o.Left):Zn (ZA2 o left)=true:=by unfold Zn at h⊢;simp only[Xf,Xw]at h⊢;obtain⟨w,D,a3,a4,a5,a6,E,F⟩:=h;exact⟨w,D,a3,a4,H,(by show left<=_;omega),E,F⟩
theorem ZCY.less(h:ZCY n l)(id left:Int):ZCY n (ZC6 l id left).1:=by
 rcases ZD1 l id left with e|⟨i,o,F,_,X,Y,e⟩
 .rw [e];exact h
 .rw [e];have E:=Xn F;have D:=(Xi.1 F).1;have V:(l.set i (ZA2 o left)).map (λx=>x.ID)=l.map λx=>x.ID:=by
   rw[VP];have:(ZA2 o left).ID=(l.map λx=>x.ID)[i]'(by simpa using D):=by rw[VH,(Xi.1 F).2];rfl
   rw[this,WH]
  have same:∀ x∈l.set i (ZA2 o left),∃ y∈l,x.Side=y.Side/\x.Price=y.Price:=λx w=>by
   rcases XK w with w|w
   .exact ⟨x,w,rfl,rfl⟩
   .exact ⟨o,E,by subst w;rfl,by subst w;rfl⟩
  refine⟨by rw[V];exact h.ids,λx w=>?_,λx w y Z s1 s2=>?_⟩
  .rcases XK w with w|w
   .exact h.ok x w
   .subst w;exact⟨ZIJ (h.ok o E).1 X Y,(h.ok o E).2⟩
  .obtain ⟨x',H,K,L⟩:=same x w;obtain⟨y',I,M,O⟩:=same y Z;rw[L,O];exact h.unc x' H y' I (K▸s1) (M▸s2)
theorem ZCY.add(h:ZCY n l)(M:o.Owner<n)(H:∀ x∈l,(o.Side=1->x.Side=2->o.Price<x.Price)/\(o.Side=2->x.Side=1->x.Price<o.Price)):ZCY n (ZMZ l o).1:=by
 unfold ZMZ;split
 .exact h
 ·rename_i I;split
  .exact h
  ·have L:Zn o=true:=by
    cases e:Zn o with
    | true=>rfl
    | false=>exact absurd (.inl e) I
   have E:l.any (λx=>x.ID==o.ID||x.Seq==o.Seq)=false:=by
    cases e:l.any λx=>x.ID==o.ID||x.Seq==o.Seq with
    | false=>rfl
    | true=>exact absurd (.inr e) I
   have E:=YK.1 E;refine⟨?_,λx w=>?_,λx w y O s1 s2=>?_⟩
   .rw [Wo,VD];refine⟨h.ids,by simp,λa F b D=>?_⟩;simp only[XS,YB,Xl]at D;subst D;obtain⟨x,w,rfl⟩:=Wa.1 F;have:=E x w;simp only[Wf,WS,not_or]at this;exact this.1
   .rcases Xx.1 w with w|w
    .exact h.ok x w
    .simp only[Xl]at w;subst w;exact⟨L,M⟩
   .rcases Xx.1 w with g1|g1<;>rcases Xx.1 O with g2|g2
    .exact h.unc x g1 y g2 s1 s2
    .have e:y=o:=by simpa using g2
     rw[e]at s2⊢;exact(H x g1).2 s2 s1
    .have e:x=o:=by simpa using g1
     rw[e]at s1⊢;exact(H y g2).1 s1 s2
    .have e:x=o:=by simpa using g1
     have K:y=o:=by simpa using g2
     rw[e]at s1;rw[K]at s2;omega
theorem ZCY.meet{c:ZCL}(x:ZE)(h:ZCY n c.l):ZCY n (Zo c x).l:=by
 unfold Zo;split
 .exact h
 .split
  .exact h.sub (ZAG _ _)
  .dsimp only;split
   .exact h.sub (ZAG _ _)
   .exact h.less _ _
theorem ZTr{n:Int}:∀ (w:List ZE) (c:ZCL),ZCY n c.l->ZCY n (w.foldl Zo c).l
 | [],c,h=>h
 | x::w,c,h=>ZTr w (Zo c x) (h.meet x)
theorem ZQR{c:ZCL}(h:c.o.Left=0)(x:ZE):Zo c x=c:=by unfold Zo;rw[Xe h]
theorem ZEs:∀ (w:List ZE) (c:ZCL),c.o.Left=0->w.foldl Zo c=c
 | [],c,_=>rfl
 | x::w,c,h=>by rw[Xy,ZQR h];exact ZEs w c h
theorem ZI6{c:ZCL}{x:ZE}(h:(Zo c x).o.Left≠0):(Zo c x).l=ZAE c.l x.ID:=by
 unfold Zo at h⊢;split
 .rename_i e;rw[Xe e]at h;exact absurd e h
 .rename_i e;rw[Xd e]at h;split
  .rfl
  .rename_i w;rw[Xd w]at h;dsimp only at h⊢;split
   .rfl
   .rename_i D;exfalso;have h:c.o.Left-min c.o.Left x.Left≠0:=h;omega
theorem ZJM:∀ (w:List ZE) (c:ZCL),(w.foldl Zo c).o.Left≠0->(w.foldl Zo c).l=w.foldl (λl x=>ZAE l x.ID) c.l
 | [],c,_=>rfl
 | x::w,c,h=>by rw[Xy]at h;have D:(Zo c x).o.Left≠0:=λe=>h (by rw[ZEs w _ e];exact e);rw[Xy,ZJM w (Zo c x) h,ZI6 D,Xy]
theorem ZJ9:∀ {l:List ZE} {id:Int},(l.map λx=>x.ID).Nodup->∀ y∈ZAE l id,y∈l/\y.ID≠id
 | [],_,_,y,w=>by simp[ZAE]at w
 | a::l,id,hn,y,w=>by
   rw[XS,Vk]at hn;unfold ZAE at w;rw[List.eraseP_cons]at w;cases e:(a.ID==id) with
   | true=>
     rw[e]at w;simp only[XL]at w;have e:a.ID=id:=by simpa using e
     exact⟨Xq _ w,λD=>hn.1 (Wa.2 ⟨y,w,by rw[D,e]⟩)⟩
   | false=>
     rw[e]at w;simp only[Yu]at w;rcases Xm.1 w with rfl|w
     .exact ⟨by simp,by simpa using e⟩
     .have:=ZJ9 hn.2 y w;exact⟨Xq _ this.1,this.2⟩
theorem ZLA:∀ (w l:List ZE),(l.map λx=>x.ID).Nodup->∀ y∈w.foldl (λl x=>ZAE l x.ID) l,y∈l/\∀ x∈w,y.ID≠x.ID
 | [],l,_,y,hy=>⟨hy,by simp⟩
 | m::w,l,hn,y,hy=>by
   rw[Xy]at hy;obtain⟨E,F⟩:=ZLA w (ZAE l m.ID) (hn.sublist ((ZAG l m.ID).map _)) y hy;obtain⟨H,I⟩:=ZJ9 hn y E;refine⟨H,λx D=>?_⟩;rcases Xm.1 D with rfl|D
   .exact I
   .exact F x D
theorem ZG4{a b c:Int}(w:Z5 s b a=false)(D:Z5 s c b=false):Z5 s c a=false:=by unfold Z5 at w D⊢;simp only[WP,Ys,Wc,Wy]at w D⊢;omega
theorem ZPz{a b:Int}(h:Z5 s a b=true):Z5 s b a=false:=by unfold Z5 at h⊢;simp only[WP,Ys,Wc,Wy,Wf,Xf,Xw,WS]at h⊢;omega
def ZLT(s:Int)(a b:ZE):Prop:=Z5 s b.Price a.Price=false
theorem ZI9{s:Int}{o:ZE}(H:o.Side=s):∀ {l:List ZE},(∀ x∈l,x.Side=s)->l.Pairwise (ZLT s)->(ZR5 o l).Pairwise (ZLT s)
 | [],_,_=>by simp[ZR5]
 | x::l,hs,hp=>by
   have w:=Wm.1 hp;unfold ZR5;split
   ·rename_i e
    have E:Z5 s x.Price o.Price=false:=by
     unfold ZPJ at e;rw[H]at e;cases F:Z5 s o.Price x.Price with
     | true=>exact ZPz F
     | false=>
       cases I:Z5 s x.Price o.Price with
       | false=>rfl
       | true=>
         rw[F,I]at e;simp at e
    refine Wm.2 ⟨λz D=>?_,hp⟩;rcases Xm.1 D with rfl|D
    .exact E
    .exact ZG4 E (w.1 z D)
   ·rename_i e;refine Wm.2 ⟨λz D=>?_,ZI9 H (λy K=>hs y (by simp[K])) w.2⟩;rcases Xm.1 ((ZIC o l).mem_iff.1 D)with rfl|D
    ·show Z5 s z.Price x.Price=false;cases F:Z5 s z.Price x.Price with
     | false=>rfl
     | true=>
       exfalso;apply e;unfold ZPJ;rw[H,F];simp
    .exact w.1 z D
theorem ZHe{s:Int}:∀ {l:List ZE},(∀ x∈l,x.Side=s)->(ZIj l).Pairwise (ZLT s)
 | [],_=>YY
 | x::l,h=>ZI9 (h x (by simp)) (λy w=>h y (by simp[(ZCq l).mem_iff.1 w])) (ZHe λy w=>h y (by simp[w]))
theorem ZHs(l:List ZE)(s:Int):(ZAa l s).Pairwise (ZLT s):=ZHe λx w=>by simpa using (Wk.1 w).2
theorem ZS2{α:Type}{p:α->Bool}{R:α->α->Prop}(D:∀ a b,R a b->p a=false->p b=false):∀ {l:List α},l.Pairwise R->∀ y∈l,y∈l.takeWhile p\/p y=false
 | [],_,y,hy=>by simp at hy
 | a::l,w,y,hy=>by
   have w:=Wm.1 w;cases e:p a with
   | true=>
     rw[Vd,e];simp only[Yp];rcases Xm.1 hy with rfl|hy
     .exact .inl (by simp)
     .exact (ZS2 D w.2 y hy).imp (λh=>Xq _ h) id
   | false=>
     rcases Xm.1 hy with rfl|hy
     .exact .inr e
     .exact .inr (D a y (w.1 y hy) e)
theorem ZQk(l:List ZE)(o:ZE)(how:Int):(ZAe l o how).o.ID=o.ID/\(ZAe l o how).o.Seq=o.Seq/\(ZAe l o how).o.Owner=o.Owner/\(ZAe l o how).o.Side=o.Side/\(ZAe l o how).o.Price=o.Price:=by
 have key:∀ (w:List ZE) (c:ZCL),(w.foldl Zo c).o.ID=c.o.ID/\(w.foldl Zo c).o.Seq=c.o.Seq/\(w.foldl Zo c).o.Owner=c.o.Owner/\(w.foldl Zo c).o.Side=c.o.Side/\(w.foldl Zo c).o.Price=c.o.Price:=by
  intro w;induction w with
  | nil=>intro c;exact⟨rfl,rfl,rfl,rfl,rfl⟩
  | cons x w F=>
    intro c;have D:=F (Zo c x);have E:=ZEr c x;rw[Xy];exact⟨D.1.trans E.1,D.2.1.trans E.2.1,D.2.2.1.trans E.2.2.1,D.2.2.2.1.trans E.2.2.2.1,D.2.2.2.2.trans E.2.2.2.2⟩
 exact key _ _
theorem ZGe(h:s=1\/s=2):ZAf s=3-s:=by unfold ZAf ZAd;rcases h with rfl|rfl<;>rfl
theorem ZQA(h:ZCY n l)(Y:how≠4)(hl:(ZAe l o how).o.Left≠0):∀ x∈(ZAe l o how).l,(o.Side=1->x.Side=2->o.Price<x.Price)/\(o.Side=2->x.Side=1->x.Price<o.Price):=by
 intro x K;unfold ZAe at K hl;rw[ZJM _ _ hl]at K;obtain⟨L,M⟩:=ZLA _ _ h.ids x K;have key:∀ s t,o.Side=s->x.Side=t->(s=1\/s=2)->t=3-s->Z5 s x.Price o.Price=true:=by
  intro s t H X E F;have e:ZAf o.Side=t:=by rw[H,ZGe E,F]
  have V:x∈ZAa l (ZAf o.Side):=ZAR.2 ⟨L,by rw[e,X]⟩;have O:∀ a b:ZE,ZLT (ZAf o.Side) a b->ZBc how o a=false->ZBc how o b=false:=by intro a b w D;rw[e]at w;unfold ZBc ZGw at D⊢;unfold ZLT at w;rw[H]at D⊢;simp only[WP,Wy,Ys,Bool.not_eq_false']at D⊢;refine⟨D.1,D.2.imp id λD=>?_⟩;subst F;unfold Z5 at w D⊢;simp only[WP,Ys,Wc,Wy,Wf,Xf,Xw,WS]at w D⊢;omega
  rcases ZS2 O (ZHs l (ZAf o.Side)) x V with hx2|hx2
  .exact absurd rfl (M x hx2)
  .unfold ZBc ZGw at hx2;rw[H]at hx2;have I:ZAd s=true:=by unfold ZAd;rcases E with rfl|rfl<;>rfl
   rw[I]at hx2;simp at hx2;exact hx2.2
 refine⟨λa b=>?_,λa b=>?_⟩
 .have:=key 1 2 a b (.inl rfl) rfl;unfold Z5 at this;simp only[Wf,Xf,Xw,WS]at this;omega
 .have:=key 2 1 a b (.inr rfl) rfl;unfold Z5 at this;simp only[Wf,Xf,Xw,WS]at this;omega
theorem Zb5(h:ZCY n l)(H:o.Owner<n):ZCY n (doV l o how).1:=by
 unfold doV;split
 .exact h
 .dsimp only;have D:ZCY n (ZAe l o how).l:=ZTr _ _ h;split
  .rename_i I;have F:how≠4:=λe=>by have:=I.1;rw[e]at this;exact absurd this (by decide)
   have w:=ZQk l o how;have E:=ZQA (o:=o) (how:=how) h F (by omega);refine D.add (by rw[w.2.2.1];exact H) λx K=>?_;rw[w.2.2.2.1,w.2.2.2.2];exact E x K
  .exact D
def ZCU(S:DS):Prop:=∀ b∈S.books,ZCY S.parties.length b
theorem ZHN(h:ZCU S)(n:Int):ZCY S.parties.length (Zj S n):=by
 unfold Zj;cases e:S.books[n.toNat]? with
 | none=>exact ZCY.nil _
 | some b=>exact h b (Xn e)
theorem ZXv(h:ZCU S){x:List ZE}(D:ZCY S.parties.length x):ZCU (ZAb S n x):=λb w=>by
 rcases XK w with w|w
 .exact h b w
 .subst w;exact D
structure ZB4 (S T:DS):Prop where
 parties:T.parties=S.parties
 bonds:T.bonds.length=S.bonds.length
 books:T.books.length=S.books.length
 look:T.look=S.look
theorem ZB4.refl(S:DS):ZB4 S S:=⟨rfl,rfl,rfl,rfl⟩
theorem ZB4.trans{T:DS}(h:ZB4 S T)(g:ZB4 T U):ZB4 S U:=⟨g.parties.trans h.parties,g.bonds.trans h.bonds,g.books.trans h.books,g.look.trans h.look⟩
theorem ZB4.set(S:DS)(n:Int)(x:List ZE):ZB4 S (ZAb S n x):=⟨rfl,rfl,by show (S.books.set _ _).length=_;rw[Xp],rfl⟩
theorem ZFT(c:DC)(who n:Int)(o:ZE)(how:Int):(ZAJ c who n o how).1.d.books=c.d.books.set n.toNat (ZG5 c n o how).1/\ZB4 c.d (ZAJ c who n o how).1.d:=by have h:=(ZDC c who n o how).1;generalize ZAJ c who n o how=r at*;rw[h];exact⟨rfl,rfl,rfl,by dsimp only;rw[Xp],rfl⟩
theorem ZJf(h:ZCU c.d)(D:o.Owner<c.d.parties.length):ZCU (ZAJ c who n o how).1.d:=by
 obtain⟨e,E⟩:=ZFT c who n o how;intro b w;rw[e]at w;rw[E.parties];rcases XK w with w|w
 .exact h b w
 .subst w;exact Zb5 (o:=ZGi c o) (ZHN h n) D
theorem ZYA(h:ZCU c.d)(E:who<c.d.parties.length):ZCU (ZCt c who m).1.d/\ZB4 c.d (ZCt c who m).1.d:=by
 have D:=ZJf (c:=c) (who:=who) (n:=m.F_0) (how:=m.F_4) (o:=ZAh c who m) h E;have w:=(ZFT c who m.F_0 (ZAh c who m) m.F_4).2;unfold ZCt;split
 .exact ⟨h,ZB4.refl _⟩
 split
 .exact ⟨h,ZB4.refl _⟩
 split
 .exact ⟨h,ZB4.refl _⟩
 split
 .exact ⟨D,w.parties,w.bonds,w.books,w.look⟩
 .exact ⟨D,w⟩
theorem ZVa(h:ZCU c.d)(F:o.Owner<c.d.parties.length):ZCU (ZCN c who n o price qty).1.d/\ZB4 c.d (ZCN c who n o price qty).1.d:=by
 unfold ZCN;split
 .exact ⟨h,ZB4.refl _⟩
 split
 .exact ⟨ZXv h ((ZHN h n).less _ _),ZB4.set _ _ _⟩
 .have w:ZCU (ZAb c.d n (ZAE (Zj c.d n) o.ID)):=ZXv h ((ZHN h n).sub (ZAG _ _));have E:=ZJf (c:={c with d:=ZAb c.d n (ZAE (Zj c.d n) o.ID)}) (who:=who) (n:=n) (how:=0) (o:=ZA0 o price qty) w F;have D:=(ZFT {c with d:=ZAb c.d n (ZAE (Zj c.d n) o.ID)} who n (ZA0 o price qty) 0).2;exact⟨E,(ZB4.set _ _ _).trans D⟩
theorem ZV6(h:ZCU c.d)(w:who<c.d.parties.length):ZCU (ZAw c who m).1.d/\ZB4 c.d (ZAw c who m).1.d:=by
 unfold ZAw;split
 .exact ZYA h w
 ·cases ZAT c.d m.F_0 with
  | none=>exact⟨h,ZB4.refl _⟩
  | some n=>
    dsimp only;split
    .exact ⟨h,ZB4.refl _⟩
    .rename_i e;have e:=WF.1 e;split
     .exact ZVa (c:={c with id:=m.F_0}) h (by rw[e];exact w)
     .exact ⟨ZXv h ((ZHN h n).sub (ZAG _ _)),ZB4.set _ _ _⟩
structure ZQp (c c':DC):Prop where
 books:c'.d.books=c.d.books
 shape:ZB4 c.d c'.d
theorem ZQp.u(k:ZQp c c')(h:ZCU c.d):ZCU c'.d:=λb w=>by rw[k.books]at w;rw[k.shape.parties];exact h b w
theorem ZWA(c:DC)(who:Int)(m:Msg):ZQp c (ZCM c who m).1:=by unfold ZCM ZIM;(repeat' split)<;>exact⟨rfl,rfl,rfl,rfl,rfl⟩
theorem Zbo(c:DC)(a:Ask)(q:Za):ZQp c (ZMV c a q).1:=by unfold ZMV;(repeat' split)<;>exact⟨rfl,rfl,rfl,rfl,rfl⟩
theorem ZZ3(c:DC)(who:Int)(m:Msg):ZQp c (ZGK c who m).1:=by unfold ZGK;(repeat' split)<;>first|exact⟨rfl,rfl,rfl,rfl,rfl⟩|exact Zbo c _ _
theorem ZQL(c:DC)(a:Ask):ZQp c (ZAQ c a):=by unfold ZAQ;split<;>exact⟨rfl,rfl,rfl,rfl,rfl⟩
theorem ZXo(c:DC)(who:Int)(m:Msg):ZQp c (ZDg c who m).1:=by
 unfold ZDg;have key:∀ (id:Int) (a:Ask),ZQp c (ZAQ {c with id:=id} a):=λid a=>by have k:=ZQL {c with id:=id} a;exact⟨k.books,k.shape.parties,k.shape.bonds,k.shape.books,k.shape.look⟩
 (repeat' split)<;>first|exact⟨rfl,rfl,rfl,rfl,rfl⟩|exact key _ _
theorem ZZx(c:DC)(who id:Int):ZQp c (ZGh c who id).1:=by unfold ZGh;split<;>exact⟨rfl,rfl,rfl,rfl,rfl⟩
theorem Zao(c:DC)(n w:Int):ZQp c (ZFz c n w).1:=by unfold ZFz;(repeat' split)<;>first|exact⟨rfl,rfl,rfl,rfl,rfl⟩|exact⟨rfl,rfl,(by dsimp only;rw[Xp]),rfl,rfl⟩
theorem ZRC(c:DC)(who:Int)(m:Msg):ZQp c (ZBS c who m).1:=by
 unfold ZBS;(repeat' split)<;>first|exact⟨rfl,rfl,rfl,rfl,rfl⟩|skip
 have h:=(ZEq (Z6 c who m) (List.range c.d.parties.length) (ZN3 c (Z6 c who m))).1;exact⟨by dsimp only;rw[h];rfl,by dsimp only;rw[h];exact⟨rfl,rfl,rfl,rfl⟩⟩
theorem ZbW(h:ZCU c.d):ZCU (ZBZ c who m).1.d/\ZB4 c.d (ZBZ c who m).1.d:=by
 have k:∀ {c':DC},ZQp c c'->ZCU c'.d/\ZB4 c.d c'.d:=λk=>⟨k.u h,k.shape⟩
 unfold ZBZ;split
 .exact ⟨h,ZB4.refl _⟩
 .rename_i e;have w:ZMX c.d who m=true:=by simpa using e
  unfold ZMX at w;simp only[Xf]at w;have D:=ZLm w.2.2;split
  .exact ZV6 h D.2
  split
  .exact k (ZWA c who m)
  split
  .exact k (ZZ3 c who m)
  split
  .exact k (ZXo c who m)
  split
  .exact k (ZZx c who _)
  split
  .exact k (ZRC c who m)
  .exact k (Zao c _ _)
theorem Zch(h:ZCU S):ZCU (doD S who seq m).1/\ZB4 S (doD S who seq m).1:=by have:=ZbW (c:=ZBU S) (who:=who) (m:=m) h;unfold doD;split<;>exact this
theorem ZWF{T:DS}(h:ZCU S)(q:ZQx S T):ZCU T/\ZB4 S T:=by have e:=q.rest;have D:=q.books;generalize T.books=bs at*;generalize T.quotes=qs at*;subst e;refine⟨λb E=>?_,rfl,rfl,D.1,rfl⟩;obtain⟨k,F⟩:=Ya E;obtain⟨x,H,w⟩:=D.2 k b F;exact(h x (Xn H)).sub w
theorem ZGY{who:Int}:∀ (os:List ZE) (st:List ZE×List Out),(os.foldl (ZDz who) st).1=(os.filter λx=>x.Owner==who).foldl (λl x=>ZAE l x.ID) st.1
 | [],st=>rfl
 | x::os,st=>by
   rw[Xy,ZGY os];unfold ZDz;by_cases e:x.Owner=who
   .rw [Xe e,Wh,Xe (by simpa using e),Xy]
   .rw [Xd e,Wh,Xd (by simpa using e)]
def ZcY(x:Int)(o:Out):Int:=if o.Msg_Kind=20 then (if o.Msg_F_0=x then o.Msg_F_2 else 0) else if o.Msg_Kind=21 then (if o.Msg_F_0=x then o.Msg_F_1 else 0) else 0
def acc(x:Int)(os:List Out):Int:=(os.map (ZcY x)).sum
variable {n:Nat}
theorem ZKz{k:Nat}(w:N<=6500)(D:n<=300)(H:k<=1000000):81000*N+1000000*n+k<=1000000000:=by have E:=Vt 81000 w;have F:=Vt 1000000 D;omega
theorem ZQP(h:LOk A B x)(H:ZAD bs)(M:B+bs.length<=900000):(ZCC x bs).2.1.length+ZPS (ZCC x bs).1<=ZPS x+bs.length:=by have w:ZAD (x.held++bs):=λb D=>(Xx.1 D).elim (h.held b) (H b);have F:=ZKc w;have E:=ZGD w;rw[Xg]at F;have K:=h.hl;have L:=ZNs (A:=A) (B:=B) (s0:=x.s) (Z9 (x.held++bs)).1 (k:=0) (st:=(x.s,x.out,[],false)) ⟨rfl,Xc _,rfl,Xc _,Xc _,h.out,h.outs,Xc _,λf I=>by cases I⟩ E.1 h.wf (by omega);have O:=L.n;unfold ZCC ZPS;dsimp only;omega
theorem ZUA{ls:List LS}(h:∀ x∈ls,LOk A B x)(D:B<=C)(E:LOk A C y):∀ x∈ls.set i y,LOk A C x:=λx w=>(XK w).elim (λw=>(h x w).mono (Xc _) D) λe=>e▸E
variable {S:VS}{l:List Hp}
theorem ZUP{m:Sl}(a:ZBg v S h l)(hg:g∈l)(r:Row (cI .u8) g m bs)(hb:ZAD bs)(iv:ZM0 n t S)(hn:n<=299)(ht:t+bs.length<=6500)(hi:i<S.ls.length)(hq:∀ T h',ZBg v T h' l->ZOo S i S.ls[i] bs T->ZM0 (n+1) (t+bs.length) T->T.ls.length=S.ls.length->Q ⟨⟩ h'):cx 63 [vp v.p,ZFI.enc ⟨kd,(i:Int),m⟩] (ZV []) h Q:=by
 refine c63 (d:=⟨kd,(i:Int),m⟩) ?_;dsimp only[ZM,VK.p];obtain⟨N,ok,hpot⟩:=iv;refine ZK (cd:=cSl) (x:=v.sl) a.ob (i:=1) rfl ?_;obtain⟨c,R,q,o1,hpq,w1,hld,cl⟩:=a.line hi;refine hld ?_;have hx:=ok.l _ (Xs hi);have hxi:S.ls[i]?=some S.ls[i]:=Xa hi;generalize hxe:S.ls[i]=x at*;have hxl:=hx.hl;have hxa:=hx.al;have hN0:N<=6500:=by omega
 have hbig:=ZKz (k:=0) hN0 (show n<=300 by omega) (Xh _);have hbl:=ZSW hx hb (by omega);have hbp:=ZQP hx hb (by omega);refine ZQg o1 w1 (g:=g) (by simp[hg]) r hx.held hb (by omega) (by omega) hx.wf (by omega) (by omega) λsl d c2 h2 o2 w2 wd=>?_;have w2:ZXQ q (ZCC x bs).1 c2:=w2;have wd:Own ZZ d sl (ZCC x bs).2.1:=wd;have a2:=cl h2 c2 (d::l) _ (o2.pick [0,2,1] 3) w2;refine ZKH (o2.mem (by simp)) w2 ?_;have hdn:((Z9 (x.held++bs)).1.foldl ZAy (x.s,x.out,[],false)).2.2.2=(ZCC x bs).2.2:=rfl;have hup:((Z9 (x.held++bs)).1.foldl ZAy (x.s,x.out,[],false)).1.up=(ZCC x bs).1.s.up:=rfl;unfold ZOo at hq;generalize hbr:ZCC x bs=br at*;obtain⟨y,asks,dn⟩:=br;dsimp only at*;rw[hdn];have hps:=ZJ2 (y:=y) hxi;have hok1:VOk N (81000*N+1000000*n) (t+bs.length+8*n) ⟨S.d,S.ls.set i y⟩:=⟨ok.w,ok.f,ZUA ok.l (by omega) (hbl.1.mono (Xc _) (by omega)),by dsimp only;rw[Xp];exact ok.n⟩
 have X:(S.ls.set i y).length=S.ls.length:=Xp;generalize hS1:(⟨S.d,S.ls.set i y⟩:VS)=S1 at*;have H:S1.ls=S.ls.set i y:=by rw[<-hS1]
 have hwl:=wd.1;refine Zc (λz h'=>∃ (j:Nat) (U:VS),z=(j:Int)/\j<=asks.length/\ZBg v U h' (d::l)/\VOk (N+j) (81000*(N+j)+1000000*n) (t+bs.length+8*n) U/\ZEF S1.ls U.ls/\(∀ W,ZJr (i:Int) U (asks.drop j) W->ZJr (i:Int) S1 asks W)) (λz=>asks.length-z.toNat)
  ⟨0,S1,rfl,Xh _,a2,hok1,ZEF.refl _,λW hW=>hW⟩ ?_
 rintro J z h3 I ⟨j,U,rfl,hj,a3,D,Y,E⟩
 refine ZG (λhlt=>?_) λhge=>?_
 .have V:j<asks.length:=by omega
  have a0:asks[j]?=some asks[j]:=Xa V;have hfr:=hbl.2.1 _ (Xs V);refine ZN wd.row (Xb j) (by omega) λp hp=>ZQ wd.row (a3.sub (by simp)) rfl hp (i:=j) a0 (by rfl) ?_;have hdr:asks.drop j=asks[j]::asks.drop (j+1):=XZ V;generalize asks[j]=f at*;refine ZK (cd:=Go.Eng.cP) (x:=v.k.p) a3.ob (i:=0) rfl ?_;obtain⟨R4,b4,K⟩:=a3.desk;have hNj:N+j+1<=6500:=by omega
  have hlo:=ZKe (c:=ZBU U.d) (who:=(i:Int)) (m:=ZDt f) D.w;have h00:(ZBU U.d).outs.length=0:=rfl;refine ZMC (who:=(i:Int)) (seq:=f.Seq) (m:=ZDt f) b4 D.w (by omega) (by omega) λs5 d5 h5 b5 w5=>?_;have F:=ZZ5 (who:=(i:Int)) (seq:=f.Seq) (m:=ZDt f) D.w D.f (by omega) hfr.2 hfr.1;have a5:=K h5 (d5::d::l) _ (b5.perm (Xt _ _ _));have hbj:=ZKz (k:=200000) (show N+j<=6500 by omega) (show n<=300 by omega) (by omega);refine ZEV (g:=d5) (N:=N+j+1) (A:=81000*(N+j)+1000000*n) (B:=t+bs.length+8*n) a5 (by simp) w5.row ⟨F.1,F.2.1,D.l,D.n⟩ (by omega) F.2.2.1 (by have:=F.2.2.2;omega) λT h6 a6 tl Z hl6=>?_;have ab:=ZDZ tl;have ab:ZEF U.ls T.ls:=ab;rw[Z1 (by omega)];refine I _ _ ⟨j+1,T,rfl,by omega,a6.drop,Z.mono (by omega) (by have:=F.2.2.2;omega) (Xc _),Y.trans ab,λW hW=>E W ?_⟩ (by omega);rw[hdr];exact ZJr.cons tl hW
 ·have hje:j=asks.length:=by omega
  subst hje;have E:=E U (by rw[XY];exact ZJr.nil);have hul:U.ls.length=S.ls.length:=by rw[Y.1,H,X]
  have hiu:i<U.ls.length:=by omega
  have hui:U.ls[i]?=some U.ls[i]:=Xa hiu;have hNa:N+asks.length<=6500:=by omega
  have hpu:pot U.ls=pot (S.ls.set i y):=by rw[Y.2.1,H]
  refine ZI (λtt h'=>h'=h3/\(tt=true↔(dn=true\/(y.s.up=true/\U.ls[i].s.up=false)))) ?_ λJ2 M=>?_
  .rintro tt h' ⟨rfl,htt⟩;refine ZD (λe=>?_) λe=>?_
   .refine ZK (cd:=Go.Eng.cP) (x:=v.k.p) a3.ob (i:=0) rfl ?_;obtain⟨R4,b4,K⟩:=a3.desk;refine Go.Proofs.YtkmniidiifpdgaaGreat.ZHp (who:=(i:Int)) b4 D.w (by omega) λs5 d5 h5 b5 w5 _ hol=>?_;have O:=ZKn (who:=(i:Int)) D.w;have hgf:=ZJc (who:=(i:Int)) D.w D.f;have a5:=K h5 (d5::d::l) _ (b5.perm (Xt _ _ _));have hbj:=ZKz (k:=200000) hNa (show n<=300 by omega) (by omega);refine ZEV (g:=d5) (N:=N+asks.length) (A:=81000*(N+asks.length)+1000000*n) (B:=t+bs.length+8*n) a5 (by simp) w5.row ⟨O.1,hgf.1,D.l,D.n⟩ (by omega) hgf.2 (by have:=O.2;omega) λT h6 a6 tl Z hl6=>?_;refine hq T h6 a6.drop.drop ⟨U,U.ls[i],E,hui,?_⟩ ⟨N+asks.length,Z.mono (Xc _) (by have:=O.2;omega) (by omega),?_⟩ (hl6.trans hul)
    .rw [Xe (htt.1 e)];exact tl
    .have:=(ZDZ tl).2.1;have this:pot T.ls=pot U.ls:=this;omega
   .have e:¬(dn=true\/(y.s.up=true/\U.ls[i].s.up=false)):=λe2=>by rw[htt.2 e2]at e;cases e
    refine hq U _ a3.drop ⟨U,U.ls[i],E,hui,?_⟩ ⟨N+asks.length,D.mono (Xc _) (by omega) (by omega),by omega⟩ hul;rw[Xd e]
  .refine ZD (λe=>M _ _ ⟨rfl,?_⟩) λe=>?_
   .have e:dn=true:=e;simp[e]
   .have e:dn=false:=e;refine ZD (λL=>?_) λL=>M _ _ ⟨rfl,?_⟩
    .have L:y.s.up=true:=L;obtain⟨c6,R6,q6,o6,hq6,w6,_,_⟩:=a3.line hiu;rw[hpq]at hq6;cases hq6;refine ZKH (o6.mem (by simp)) w6 (M _ _ ⟨rfl,?_⟩);rw[e,L];simp
    .have L:y.s.up=false:=L;rw[e,L];simp
theorem ZWm(h:LOk A B x):LOk A (B+1) (ZFF x).1:=by have D:=ZRQ x.s;have w:=ZC1 (ZCh x.s).2.1 ((ZCh x.s).1,x.out,false);dsimp only at w;have hl:=h.hl;have E:=h.sent;have F:=h.heard;unfold ZFF ZFp;exact⟨h.held,by dsimp only;rw[w.2.2.1,D.2.2.1];omega,by dsimp only;rw[w.2.1,D.2.1];exact h.wf,by dsimp only;rw[w.2.1,D.2.1];exact h.al,by dsimp only;rw[w.1,D.1];exact h.beat,by dsimp only;rw[w.2.2.2.1];omega,by dsimp only;rw[w.2.2.2.2.1];omega,w.2.2.2.2.2.2 h.out,ZFu _ _ (ZTd x.s) h.outs⟩
theorem ZXf(h:LOk A B x):LOk A B (ZPi x).1:=⟨h.held,h.hl,h.wf,h.al,h.beat,h.sent,h.heard,h.out,h.outs⟩
theorem ZM0.mono{w:Nat}(h:ZM0 n t S)(E:n<=n')(H:t<=w):ZM0 n' w S:=by obtain⟨N,D,F⟩:=h;exact⟨N,D.mono (Xc _) (by omega) (by omega),by omega⟩
theorem ZRd(a:ZBg v S h l)(iv:ZM0 n t S)(hn:n<=299)(ht:t<=6500)(hq:∀ T h',ZBg v T h' l->ZUN S T->ZM0 (n+1) t T->T.ls.length=S.ls.length->Q ⟨⟩ h'):cx 61 [vp v.p] (ZV []) h Q:=by
 refine c61 ?_;dsimp only[ZM,VK.p];obtain⟨N,ok,hpot⟩:=iv;have hN0:N<=6500:=by omega
 have h8:=ok.n;have hbig:=ZKz (k:=1000000) hN0 (show n<=300 by omega) (Xc _);refine ZK (cd:=Go.Eng.cP) (x:=v.k.p) a.ob (i:=0) rfl ?_;obtain⟨R,b,cl⟩:=a.desk;refine ZGJ b ok.w ok.f (by omega) λd s outs dd h1 b1 w1 ag wk fk qu oo hlen=>?_;have a1:=cl h1 (dd::l) d (b1.perm (Xt _ _ _));refine ZEV (g:=dd) (N:=N) (A:=81000*N+1000000*n) (B:=t+8*n) a1 (by simp) w1.row ⟨wk,fk,ok.l,ok.n⟩ (by omega) oo (by omega) λU h2 O tl ok2 K=>?_;have tll:=ZDZ tl;have hpu:pot U.ls=pot S.ls:=tll.2.1;have K:U.ls.length=S.ls.length:=K;have O:=O.drop;refine ZK (cd:=cSl) (x:=v.sl) O.ob (i:=1) rfl ?_;have hvl:=O.len;refine Zc (λz h'=>∃ (j:Nat) (W:VS),z=(j:Int)/\j<=S.ls.length/\ZBg v W h' l/\VOk N (81000*N+1000000*n+100000+81000*j) (t+8*n+j) W/\ZER U j W/\pot W.ls=pot S.ls/\W.ls.length=S.ls.length) (λz=>S.ls.length-z.toNat)
  ⟨0,U,rfl,Xh _,O,ok2.mono (Xc _) (by omega) (Xc _),ZER.zero,hpu,K⟩ ?_
 rintro J z h3 F ⟨j,W,rfl,hj,a3,D,M,hp3,hl3⟩
 refine ZG (λhlt=>?_) λhge=>?_
 .have I:j<W.ls.length:=by omega
  rw[Z1 (by omega)];refine ZI (λ_ h'=>∃ E:VS,ZBg v E h' l/\VOk N (81000*N+1000000*n+100000+81000*(j+1)) (t+8*n+(j+1)) E/\ZER U (j+1) E/\pot E.ls=pot S.ls/\E.ls.length=S.ls.length) ?_ λJ2 V=>?_
  .rintro _ h' ⟨E,a',ok',ln',hp',hl'⟩;exact F _ _ ⟨j+1,E,rfl,by omega,a',ok',ln',hp',hl'⟩ (by omega)
  .obtain ⟨c4,R4,q,o4,_,w4,hld,cl4⟩:=a3.line I;refine hld ?_;have L:W.ls[j]?=some W.ls[j]:=Xa I;have hx:=D.l _ (Xs I);generalize W.ls[j]=x at*;have hx1:=hx.sent;have hx2:=hx.heard;refine ZRf o4 w4 hx.beat (by omega) (by omega) λc5 h5 o5 w5=>?_;have w5:ZXQ q (ZFF x).1 c5:=w5;have a5:=cl4 h5 c5 l _ o5 w5;have hps:=ZJ2 (y:=(ZFF x).1) L;have hpe:ZPS (ZFF x).1=ZPS x:=rfl;have ZIi:(W.ls.set j (ZFF x).1).length=W.ls.length:=Xp;have Z:=ZUA (i:=j) (C:=t+8*n+(j+1)) D.l (by omega) ((ZWm hx).mono (Xc _) (by omega));have hdn:(ZFp x.s x.out).2.2=(ZFF x).2:=rfl;rw[hdn];refine ZD (λe=>?_) λe=>?_
   .have e:(ZFF x).2=true:=e;refine ZK (cd:=Go.Eng.cP) (x:=v.k.p) a5.ob (i:=0) rfl ?_;obtain⟨R6,b6,cl6⟩:=a5.desk;refine Go.Proofs.YtkmniidiifpdgaaGreat.ZHp (who:=(j:Int)) b6 D.w (by omega) λs7 d7 h7 b7 w7 _ hol=>?_;have H:=ZKn (who:=(j:Int)) D.w;have X:=ZJc (who:=(j:Int)) D.w D.f;have a7:=cl6 h7 (d7::l) _ (b7.perm (Xt _ _ _));refine ZEV (g:=d7) (N:=N) (A:=81000*N+1000000*n+100000+81000*j) (B:=t+8*n+(j+1)) a7 (by simp) w7.row ⟨H.1,X.1,Z,by dsimp only;omega⟩ (by omega) X.2 (by have:=H.2;omega) λT h8 a8 tl8 ok8 Y=>?_;have tlr:=ZDZ tl8;have hp8:pot T.ls=pot (W.ls.set j (ZFF x).1):=tlr.2.1;have Y:T.ls.length=(W.ls.set j (ZFF x).1).length:=Y;exact V _ _ ⟨T,a8.drop,ok8.mono (Xc _) (by have:=H.2;omega) (Xc _),ZER.down M L e tl8,by omega,by omega⟩
   .have e:(ZFF x).2=false:=e;exact V _ _ ⟨_,a5,⟨D.w,D.f,λy hy=>(Z y hy).mono (by omega) (Xc _),by dsimp only;omega⟩,ZER.stay M L e,by dsimp only;omega,by dsimp only;omega⟩
 .have hje:j=S.ls.length:=by omega
  subst hje;exact hq W h3 a3 ⟨d,outs,U,ag,qu,tl,M⟩ ⟨N,D.mono (Xc _) (by omega) (by omega),by omega⟩ hl3
theorem ZbD(a:ZBg v S h l)(hg:g∈l)(r:Row (cI .u8) g p1.B bs)(hb:ZAD bs)(iv:ZM0 n t S)(hn:n<=299)(ht:t+bs.length<=6500){Q:Bool->Hp->Prop}(H:∀ T h' b,ZBg v T h' l->DoR S p1.Kind p1.Who bs T b->ZM0 (n+1) (t+bs.length) T->T.ls.length=S.ls.length->Q b h'):cx 25 [vp v.p,ZFI.enc p1] cB h Q:=by
 refine c25 (d:=p1) ?_;unfold DoR at H;refine ZU rfl ?_;have Y:ZM0 (n+1) (t+bs.length) S:=iv.mono (by omega) (by omega);refine ZD (λe=>?_) λe=>?_
 .have e:p1.Kind=2:=by simpa using e
  refine ZRd a iv hn (by omega) λT h' a' tr K F=>?_;exact H T h' true a' (by rw[Xe e];exact⟨rfl,tr⟩) (K.mono (Xc _) (by omega)) F
 have e2:p1.Kind≠2:=by simpa using e
 refine ZTI a ?_;refine ZD (λe=>?_) λe=>?_
 .have e:¬(0<=p1.Who/\p1.Who<(S.ls.length:Int)):=by simpa only[Ym,Wc]using e
  exact H S h false a (by rw[Xd e2,Xe e];exact⟨rfl,rfl⟩) Y rfl
 have ew:0<=p1.Who/\p1.Who<(S.ls.length:Int):=by simpa using e
 have I:¬¬(0<=p1.Who/\p1.Who<(S.ls.length:Int)):=λh=>h ew;refine ZD (λe=>?_) λe=>?_
 .have ek:p1.Kind=1:=by simpa using e
  obtain⟨kd,w,m⟩:=p1;dsimp only at*;obtain⟨i,rfl⟩:=Wd ew.1;have L:i<S.ls.length:=by omega
  refine ZUP (kd:=kd) (m:=m) a hg r hb iv hn ht L λT h' a' tr K F=>?_;exact H T h' true a' (by rw[Xd e2,Xd I,Xe ek];exact⟨rfl,S.ls[i],Xa L,tr⟩) K F
 have e1:p1.Kind≠1:=by simpa using e
 refine ZD (λe=>?_) λe=>?_
 .have ek:p1.Kind=3:=by simpa using e
  obtain⟨kd,w,m⟩:=p1;dsimp only at*;obtain⟨i,rfl⟩:=Wd ew.1;have L:i<S.ls.length:=by omega
  obtain⟨N,D,hpot⟩:=iv;have hbig:=ZKz (k:=1000000) (show N<=6500 by omega) (show n<=300 by omega) (Xc _);dsimp only[ZM,VK.p];refine ZK (cd:=cSl) (x:=v.sl) a.ob (i:=1) rfl ?_;obtain⟨c4,R4,q,o4,_,w4,hld,cl4⟩:=a.line L;refine hld ?_;have X:S.ls[i]?=some S.ls[i]:=Xa L;have hx:=D.l _ (Xs L);generalize S.ls[i]=x at*;refine ZV1 o4 w4 λc5 h5 o5 w5=>?_;have w5:ZXQ q (ZPi x).1 c5:=w5;have a5:=cl4 h5 c5 l _ o5 w5;have hps:=ZJ2 (y:=(ZPi x).1) X;have hpe:ZPS (ZPi x).1=ZPS x:=rfl;have ZIi:(S.ls.set i (ZPi x).1).length=S.ls.length:=Xp;have V:=ZUA (i:=i) D.l (Xc _) (ZXf hx);have hdn:(ZM8 x.s).2=(ZPi x).2:=rfl;have hn8:=D.n;rw[hdn];have hR:∀ T,ZZo S i x T->(if kd=2 then true=true/\ZUN S T else if ¬(0<=(i:Int)/\(i:Int)<(S.ls.length:Int)) then true=false/\T=S else if kd=1 then true=true/\∃ x,S.ls[(i:Int).toNat]?=some x/\ZOo S (i:Int).toNat x bs T else if kd=3 then true=true/\∃ x,S.ls[(i:Int).toNat]?=some x/\ZZo S (i:Int).toNat x T else true=false/\T=S):=λT hT=>by rw[Xd e2,Xd I,Xd e1,Xe ek];exact⟨rfl,x,X,hT⟩
  refine ZD (λe=>?_) λe=>?_
  .have e:(ZPi x).2=true:=e;refine ZK (cd:=Go.Eng.cP) (x:=v.k.p) a5.ob (i:=0) rfl ?_;obtain⟨R6,b6,cl6⟩:=a5.desk;refine Go.Proofs.YtkmniidiifpdgaaGreat.ZHp (who:=(i:Int)) b6 D.w (by omega) λs7 d7 h7 b7 w7 _ hol=>?_;have E:=ZKn (who:=(i:Int)) D.w;have M:=ZJc (who:=(i:Int)) D.w D.f;have a7:=cl6 h7 (d7::l) _ (b7.perm (Xt _ _ _));refine ZEV (g:=d7) (N:=N) (A:=81000*N+1000000*n) (B:=t+8*n) a7 (by simp) w7.row ⟨E.1,M.1,V,by dsimp only;omega⟩ (by omega) M.2 (by have:=E.2;omega) λT h8 a8 Z ok8 O=>?_;have tlr:=ZDZ Z;have hp8:pot T.ls=pot (S.ls.set i (ZPi x).1):=tlr.2.1;have O:T.ls.length=(S.ls.set i (ZPi x).1).length:=O;refine H T h8 true a8.drop (hR T ?_) ⟨N,ok8.mono (Xc _) (by have:=E.2;omega) (by omega),by omega⟩ (by omega);unfold ZZo;rw[Xe e];exact Z
  .have e:(ZPi x).2=false:=e;refine H _ h5 true a5 (hR _ ?_) ⟨N,VOk.mono ⟨D.w,D.f,V,by dsimp only;omega⟩ (Xc _) (by omega) (by omega),by dsimp only;omega⟩ ZIi;unfold ZZo;rw[Xd (by rw[e];simp)]
 have e3:p1.Kind≠3:=by simpa using e
 exact H S h false a (by rw[Xd e2,Xd I,Xd e1,Xd e3];exact⟨rfl,rfl⟩) Y rfl
def ZIu:Bond:=⟨5,10,10,100,5,500,false⟩
def ZEX:Bond:=⟨1,1,1,1000,1,1000,false⟩
def ZEO:List Z8:=[⟨1,12,0⟩,⟨1,4,0⟩,⟨2,0,100000⟩,⟨2,0,3000⟩,⟨3,0,0⟩]
def ZBd(w:Int):List Bond×List Z8×Int×Int:=
 if w=1 then ([ZEX],ZEO,1,50) else if w=2 then ([ZEX,ZIu],ZEO,3,4) else if w=3 then ([ZIu,ZEX],ZEO++[⟨1,12,0⟩,⟨2,0,0⟩],3,50) else ([ZIu,ZEX],ZEO,3,50)
theorem ZQ2(w:Int):ZDH (ZBd w).1 (ZBd w).2.1 (ZBd w).2.2.1 (ZBd w).2.2.2=true:=by
 unfold ZBd;split
 .decide
 split
 .decide
 split
 .decide
 .decide
theorem ZKF(o:On h l){Q:ZDY->Hp->Prop}(D:∀ sb sp gb gp h',On h' (gb::gp::l)->Row Zs gb sb (ZBd (ZCe .i64 way 3)).1->Row Zu gp sp (ZBd (ZCe .i64 way 3)).2.1->Q ⟨sb,sp,(ZBd (ZCe .i64 way 3)).2.2.1,(ZBd (ZCe .i64 way 3)).2.2.2⟩ h'):
 cx 9 [vi way] ZAK h Q:=by
 refine c9 ?_;generalize ZCe .i64 way 3=w at*;unfold ZBd at D;refine ZH o λk1 h1 o1=>ZH o1 λE X o2=>?_;have I:Own Zu (ob E (ZO Zu ZEO) 108) ⟨sj E,5,5⟩ ZEO:=ZAx (rest:=[]) (by rfl) rfl rfl;refine ZI (λx h'=>Q x h') (λx h' Z=>Z) λJ L=>?_;refine ZD (λe=>?_) λe=>?_
 .have e:w=1:=by simpa using e
  rw[Xe e]at D;refine ZH o2 λF K H=>L _ _ ?_;exact D ⟨sj F,1,1⟩ ⟨sj E,5,5⟩ _ _ K (H.pick [0,1] 3) (Zk (by rfl) rfl) (Zk (by rfl) rfl)
 have M:¬w=1:=by simpa using e
 rw[Xd M]at D;refine ZD (λe=>?_) λe=>?_
 .have e:w=2:=by simpa using e
  rw[Xe e]at D;refine ZH o2 λF K H=>L _ _ ?_;exact D ⟨sj F,2,2⟩ ⟨sj E,5,5⟩ _ _ K (H.pick [0,1] 3) (Zk (by rfl) rfl) (Zk (by rfl) rfl)
 have O:¬w=2:=by simpa using e
 rw[Xd O]at D;refine ZD (λe=>?_) λe=>?_
 .have e:w=3:=by simpa using e
  rw[Xe e]at D;refine ZH o2 λF K H=>?_;refine ZW (cd:=Zu) (g:=ob F (ZO Zu [⟨1,12,0⟩,⟨2,0,0⟩]) 108) (s:=⟨sj E,5,5⟩) (t:=⟨sj F,2,2⟩) (xs:=ZEO) (ys:=[⟨1,12,0⟩,⟨2,0,0⟩]) (H.pick [1,0,2] 3) rfl I (by decide) (Zk (by rfl) rfl) (H.get (i:=0) rfl) (by decide) λd4 p n m Y o4 w4=>L _ _ ?_;exact D ⟨sj k1,2,2⟩ ⟨p,n,m⟩ _ _ Y (o4.pick [2,0] 3) (Zk (by rfl) rfl) w4.row
 have V:¬w=3:=by simpa using e
 rw[Xd V]at D;exact L _ _ (D ⟨sj k1,2,2⟩ ⟨sj E,5,5⟩ _ _ X (o2.pick [1,0] 2) (Zk (by rfl) rfl) (Zk (by rfl) rfl))
def ZAO(f:ZY):List Int:=ZBH (ZAm f)
theorem ZBj(h:wfF f):ZAD (ZAO f):=ZNY (ZDr f) (ZCo h)
theorem ZCn(h:wfF f):(ZAO f).length<=86:=by have:=ZCo h;unfold ZAO;rw[ZEk];omega
variable {Q:Sl->Hp->Prop}
theorem ZOF(o:On h l)(Z:g∈l)(r:Row ZZ g p [f])(L:wfF f)(hq:∀ s d h',On h' (d::l)->Own (cI .u8) d s (ZAO f)->Q s h'):cx 68 [Value.slice p.a p.len p.cap] cSl h Q:=by
 refine c68 ?_;have hl:p.len=1:=r.1;have hb:=ZCo L;refine Zc (λz h'=>(z=(⟨none,0,0⟩,0)/\h'=h)\/∃ s d,z=(s,1)/\On h' (d::l)/\Own (cI .u8) d s (ZAO f)) (λz=>1-z.2.toNat) (.inl ⟨rfl,rfl⟩) ?_;rintro J z X w (⟨rfl,rfl⟩|⟨s,d,rfl,o1,w1⟩)
 .dsimp only;refine ZG (λ_=>?_) λE=>absurd (show (0:Int)<(p.len:Int) by omega) E;refine ZN r (by decide) (by simp) λq H=>ZQ r (o.mem Z) rfl H (i:=0) rfl (by rfl) ?_;refine ZPP o L λs2 d2 h2 o2 w2=>?_;refine ZU0 (body:=ZAm f) o2 (g:=d2) (by simp) w2.row (ZDr f) (by omega) (λD=>absurd D (by omega)) λ_ s3 K Y M w3=>?_;have I:On Y (Hp.emp::K::l):=(M.pick [0] 2).emp;refine ZW (cd:=cI .u8) (g:=K) (s:=⟨none,0,0⟩) (t:=s3) (xs:=[]) (ys:=ZBH (ZAm f)) I rfl (Own.nil _) (by decide) w3.row (M.get (i:=0) rfl) ?_ λV p4 n4 m4 h4 o4 O=>?_
  .rw [ZEk];exact XG (Xr _ (show _<=100 by simp only[Yd];omega)) (by decide)
  .refine w _ _ (.inr ⟨⟨p4,n4,m4⟩,V,rfl,o4.pick [0] 2,?_⟩) (by show 1-(i64.wrap (0+1)).toNat<1-(0:Int).toNat;decide);rw[XV]at O;exact O
 .dsimp only;refine ZG (λF=>absurd F (by omega)) λ_=>?_;exact hq s d X o1 w1
theorem ZIk:I64 1:=⟨by decide,by decide⟩
def onF(n:Int):ZY:=mkF 0 (mkM 1 [n])
theorem ZDJ(O:I64 s)(D:ZFL m):wfF (mkF s m):=by obtain⟨E,F,H,I,K,L,M⟩:=D;unfold wfF;intro n w;simp only[mkF,ZDt,fs,Xm,XW,Ye]at w;rcases w with rfl|rfl|rfl|rfl|rfl|rfl|rfl|rfl<;>assumption
theorem ZJR:wfF (onF 1):=ZDJ ZGG ⟨ZIk,ZIk,ZGG,ZGG,ZGG,ZGG,ZGG⟩
theorem ZXF(o:On h l)(F:∀ s d h',On h' (d::l)->Own (cI .u8) d s (ZAO (onF 1))->Q s h'):cx 29 [vi 1] cSl h Q:=by refine c29 ?_;refine ZH o λk1 K D=>?_;refine ZGm (k:=1) (p:=⟨sj k1,1,1⟩) (ns:=[1]) (D.get (i:=0) rfl) (Zk (by rfl) rfl) ?_;refine ZH (vs:=ZO ZZ [onF 1]) D λw L o2=>?_;refine ZOF (p:=⟨sj w,1,1⟩) (g:=ob w (ZO ZZ [onF 1]) 161) (f:=onF 1) o2 (by simp) (Zk rfl rfl) ZJR λs d E H I=>?_;exact F s d E (H.pick [0] 3) I
theorem ZHK(o:On h l)(H:I64 seq)(E:ZFL m){Q:Act->Hp->Prop}(F:∀ s d h',On h' (d::l)->Own (cI .u8) d s (ZAO (mkF seq m))->Q ⟨1,who,s⟩ h'):
 cx 30 [vi who,vi seq,ZAk.enc m] ZFI h Q:=by
 refine c30 ?_;refine ZH (vs:=ZO ZZ [mkF seq m]) o λw L o2=>?_;refine ZOF (p:=⟨sj w,1,1⟩) (g:=ob w (ZO ZZ [mkF seq m]) 161) (f:=mkF seq m) o2 (by simp) (Zk rfl rfl) (ZDJ H E) λs d D I K=>?_;exact F s d D (I.pick [0] 2) K
def ZLI(l:List Hp)(xs:List Act)(bss:List (List Int)):Prop:=xs.length=bss.length/\∀ (i:Nat) (x:Act) (bs:List Int),xs[i]?=some x->bss[i]?=some bs->ZAD bs/\∃ g∈l,Row (cI .u8) g x.B bs
theorem ZLI.mono{l':List Hp}(h:ZLI l xs bss)(hl:∀ g∈l,g∈l'):ZLI l' xs bss:=⟨h.1,λi x bs w D=>by
 obtain⟨E,g,F,r⟩:=h.2 i x bs w D;exact⟨E,g,hl g F,r⟩⟩
def Zbc:Msg:=mkM 9 [0,1,10,4,20]
def ZO1:Msg:=mkM 10 [1,100,10]
def Zbi:Msg:=mkM 12 [1]
def ZWk:Msg:=mkM 14 [1]
def ZPm:List (Int×ZY):=[(0,onF 1),(2,onF 1),(0,mkF 1 Zbc),(2,mkF 1 ZO1),(0,mkF 2 Zbi),(2,mkF 2 ZWk)]
theorem ZOH{k a b c d e f:Int}(h:∀ n∈[k,a,b,c,d,e,f],-1000<=n/\n<=1000):ZFL ⟨k,a,b,c,d,e,f⟩:=by
 have g:∀ n∈[k,a,b,c,d,e,f],I64 n:=λn w=>by have:=h n w;exact⟨by omega,by omega⟩
 exact⟨g _ (by simp),g _ (by simp),g _ (by simp),g _ (by simp),g _ (by simp),g _ (by simp),g _ (by simp)⟩
theorem ZJ8:ZFL Zbc:=ZOH (by decide)
theorem ZFl:ZFL ZO1:=ZOH (by decide)
theorem ZKI:ZFL Zbi:=ZOH (by decide)
theorem ZHP:ZFL ZWk:=ZOH (by decide)
theorem ZLC:I64 2:=⟨by decide,by decide⟩
def ZF9(s1 s2 s3 s4 s5 s6:Sl):List Act:=[⟨1,0,s1⟩,⟨1,2,s2⟩,⟨1,0,s3⟩,⟨1,2,s4⟩,⟨1,0,s5⟩,⟨1,2,s6⟩]
theorem ZX5(o:On h l)(hq:∀ s d s1 s2 s3 s4 s5 s6 l' h',On h' (d::(l'++l))->Own ZFI d s (ZF9 s1 s2 s3 s4 s5 s6)->ZLI (l'++l) (ZF9 s1 s2 s3 s4 s5 s6) (ZPm.map λx=>ZAO x.2)->Q s h'):
 cx 55 [Value.slice none 0 0] cSl h Q:=by
 refine c55 (s:=⟨none,0,0⟩) ?_;refine ZXF o λs1 d1 h1 o1 w1=>ZXF o1 λs2 d2 h2 o2 w2=>?_;refine ZH o2 λk3 h3 o3=>?_;refine ZGm (k:=9) (p:=⟨sj k3,5,5⟩) (ns:=[0,1,10,4,20]) (o3.get (i:=0) rfl) (Zk (by rfl) rfl) ?_;refine ZHK (who:=0) (seq:=1) (m:=Zbc) o3 ZIk ZJ8 λs3 d3 h4 o4 w3=>?_;refine ZH o4 λk5 h5 o5=>?_;refine ZGm (k:=10) (p:=⟨sj k5,3,3⟩) (ns:=[1,100,10]) (o5.get (i:=0) rfl) (Zk (by rfl) rfl) ?_;refine ZHK (who:=2) (seq:=1) (m:=ZO1) o5 ZIk ZFl λs4 d4 h6 o6 w4=>?_;refine ZH o6 λk7 h7 o7=>?_;refine ZGm (k:=12) (p:=⟨sj k7,1,1⟩) (ns:=[1]) (o7.get (i:=0) rfl) (Zk (by rfl) rfl) ?_;refine ZHK (who:=0) (seq:=2) (m:=Zbi) o7 ZLC ZKI λs5 d5 h8 o8 w5=>?_;refine ZH (vs:=ZO ZFI [⟨1,0,s1⟩,⟨1,2,s2⟩,⟨1,0,s3⟩,⟨1,2,s4⟩,⟨1,0,s5⟩]) o8 λk9 h9 o9=>?_;have V:Own ZFI (ob k9 (ZO ZFI [⟨1,0,s1⟩,⟨1,2,s2⟩,⟨1,0,s3⟩,⟨1,2,s4⟩,⟨1,0,s5⟩]) 87) ⟨sj k9,5,5⟩ [⟨1,0,s1⟩,⟨1,2,s2⟩,⟨1,0,s3⟩,⟨1,2,s4⟩,⟨1,0,s5⟩]:=ZAx (rest:=[]) (by rw[Wl]) rfl rfl;refine ZW (cd:=ZFI) (g:=Hp.emp) (s:=⟨sj k9,5,5⟩) (t:=⟨none,0,0⟩) (xs:=[⟨1,0,s1⟩,⟨1,2,s2⟩,⟨1,0,s3⟩,⟨1,2,s4⟩,⟨1,0,s5⟩]) (ys:=[]) o9 rfl V (by decide) ⟨rfl,rfl⟩ (λb o h=>by cases h) (by simp[ZAW]) λd10 p10 n10 m10 h10 o10 Y=>?_;rw[Wl]at Y;refine ZH o10 λZ h11 M=>?_;refine ZGm (k:=14) (p:=⟨sj Z,1,1⟩) (ns:=[1]) (M.get (i:=0) rfl) (Zk (by rfl) rfl) ?_;refine ZHK (who:=2) (seq:=2) (m:=ZWk) M ZLC ZHP λs6 d6 h12 o12 w6=>?_;refine ZH (vs:=ZO ZFI [⟨1,2,s6⟩]) o12 λI h13 O=>?_;refine ZW (cd:=ZFI) (g:=ob I (ZO ZFI [⟨1,2,s6⟩]) 87) (s:=⟨p10,n10,m10⟩) (t:=⟨sj I,1,1⟩) (xs:=[⟨1,0,s1⟩,⟨1,2,s2⟩,⟨1,0,s3⟩,⟨1,2,s4⟩,⟨1,0,s5⟩]) (ys:=[⟨1,2,s6⟩]) (O.pick [3,0,1] 4) rfl Y (by decide) (Zk rfl rfl) (O.get (i:=0) rfl) (by simp[ZAW]) λE X L K H o14 F=>?_;have F:Own ZFI E ⟨X,L,K⟩ (ZF9 s1 s2 s3 s4 s5 s6):=F;have o15:On H (E::([d6,d5,d4,d3,d2,d1]++l)):=o14.pick [0,2,3,5,7,9,10] 11;refine hq ⟨X,L,K⟩ E s1 s2 s3 s4 s5 s6 _ H o15 F ⟨rfl,λi x bs w D=>?_⟩;match i,w,D with
 | 0,w,D=>cases w;cases D;exact⟨ZBj ZJR,d1,by simp,w1.row⟩
 | 1,w,D=>cases w;cases D;exact⟨ZBj ZJR,d2,by simp,w2.row⟩
 | 2,w,D=>cases w;cases D;exact⟨ZBj (ZDJ ZIk ZJ8),d3,by simp,w3.row⟩
 | 3,w,D=>cases w;cases D;exact⟨ZBj (ZDJ ZIk ZFl),d4,by simp,w4.row⟩
 | 4,w,D=>cases w;cases D;exact⟨ZBj (ZDJ ZLC ZKI),d5,by simp,w5.row⟩
 | 5,w,D=>cases w;cases D;exact⟨ZBj (ZDJ ZLC ZHP),d6,by simp,w6.row⟩
 | i+6,w,D=>simp[ZF9]at w
def ZMU:List Int->List Msg->List ZY->List Msg
 | _,out,[]=>out
 | seen,out,f::fs=>if f.Seq=0\/f.Seq∈seen then ZMU seen out fs else if f.Seq≠(out.length+1:Nat) then out else ZMU (f.Seq::seen) (out++[ZDt f]) fs
theorem ZTp(seen:List Int)(out:List Msg)(f:ZY)(fs:List ZY):ZMU seen out (f::fs)=if f.Seq=0\/f.Seq∈seen then ZMU seen out fs else if f.Seq≠(out.length+1:Nat) then out else ZMU (f.Seq::seen) (out++[ZDt f]) fs:=rfl
theorem ZVJ(seen:List Int)(out:List Msg):ZMU seen out []=out:=rfl
theorem ZOM(n k:Int)(w:Nat):∀ (L:List (Int×Bool×Nat)),(∀ e∈L,e.2.1=true)->ZQr (c:=cB) false n (L++[(k,true,w)])=(ZQr (c:=cB) false n L||decide (n=k))
 | [],_=>by
   show (if n=k then true else false)=(false||decide (n=k))
   by_cases h:n=k<;>simp[h]
 | e::L,h=>by
   have H:=ZOM n k w L λx F=>h x (by simp[F]);have E:=h e (by simp);show (if n=e.1 then e.2.1 else ZQr (c:=cB) false n (L++[(k,true,w)]))=((if n=e.1 then e.2.1 else ZQr (c:=cB) false n L)||decide (n=k))
   by_cases D:n=e.1
   .rw [Xe D,Xe D,E];rfl
   .rw [Xd D,Xd D,H]
theorem ZJw(f:ZY)(D:wfF f):Z9 (ZAO f)=([ZAm f],[],0):=by have:=ZG2 [ZAm f] (λb w=>by rw[Xl]at w;subst w;exact ZCo D);simpa[ZAO]using this
theorem ZVL(w:wfF f):ZQM (ZAm f)=if okF f=true then (f,0) else (ZKv,2):=by
 cases h:okF f with
 | true=>rw[Xe rfl];exact ZGF (ZFN w h)
 | false=>
   rw[Xd (by simp)];have:ZAm f=[]:=WJ.1 (ZIQ.2 h);rw[this];rfl
theorem ZNj{fs:List ZY}(o:On h l)(hg:g∈l)(hG:G∈l)(r:Row cSl g p ss)(rr:ZEb G ss (fs.map ZAO))(hw:∀ f∈fs,wfF f)(hl:fs.length<=100000)(hq:∀ s d h',On h' (d::l)->Own ZZ d s (fs.filter okF)->Q s h'):cx 71 [Value.slice p.a p.len p.cap] cSl h Q:=by
 refine c71 ?_;have hpl:=r.1;have hsl:ss.length=fs.length:=by have:=ZDE.len rr;simpa using this
 refine ZTF o λpf c1 I o1 w1=>?_;refine Zc (λz h'=>∃ (j:Nat) (s:Sl) (c d:Hp),z=(s,(j:Int))/\j<=fs.length/\On h' (c::d::l)/\ZGx pf [] 0 c 278/\Own ZZ d s ((fs.take j).filter okF)) (λz=>fs.length-z.2.toNat)
  ⟨0,⟨none,0,0⟩,c1,Hp.emp,rfl,Xh _,o1.emp.swap,w1,Own.nil _⟩ ?_
 rintro J z h2 K ⟨j,s,c,d,rfl,hj,o2,w2,O⟩
 dsimp only;refine ZG (λhlt=>?_) λhge=>?_
 ·have Y:j<fs.length:=by omega
  have hjs:j<ss.length:=by omega
  have a0:ss[j]?=some ss[j]:=Xa hjs;have af:fs[j]?=some fs[j]:=Xa Y;have D:=hw _ (Xs Y);have rj:Row (cI .u8) G ss[j] (ZAO fs[j]):=by obtain⟨b,hb,rb⟩:=ZDE.get rr j _ a0;rw[Yf,af]at hb;simp only[WD,XT]at hb;rw[hb];exact rb
  have H:(fs.take (j+1)).filter okF=(fs.take j).filter okF++[fs[j]].filter okF:=by rw[XH,af,WE];rfl
  generalize hs0:ss[j]=s0 at*;generalize hf0:fs[j]=f at*;rw[Z1 (by omega)];refine ZN r (Xb j) (by omega) λq L=>ZQ r (o2.mem (by simp[hg])) rfl L (i:=j) a0 (by rfl) ?_;have hwl:=ZCn D;refine ZKo (g:=G) (bs:=ZAO f) o2 w2 (by simp[hG]) rj (by simp[ZAD]) (ZBj D) (by simp only[Yd];omega) (Xh _) λs3 ab c3 r3 h3 o3 w3 M Z V=>?_;rw[XV,ZJw f D]at w3 Z V;obtain⟨s4,rfl,r4,hc4⟩:∃ s4,ab=[s4]/\Row (cI .u8) r3 s4 (ZAm f)/\(ZAm f).length<=s4.cap:=by
   match ab,Z,V with
   | [s4],⟨I,_⟩,⟨h2,_⟩=>exact⟨s4,rfl,I,h2⟩
   | [],I,_=>exact I.elim
   | _::_::_,⟨_,I⟩,_=>exact I.elim
  have hl3:s3.len=1:=M.1;have hb80:=ZCo D;refine Zc (λz h'=>∃ (i:Nat) (s:Sl) (c d:Hp),z=(s,(i:Int))/\i<=1/\On h' (c::d::r3::l)/\ZGx pf [] 0 c 278/\Own ZZ d s (if i=0 then (fs.take j).filter okF else (fs.take (j+1)).filter okF)) (λz=>1-z.2.toNat)
   ⟨0,s,c3,d,rfl,Xh _,o3.pick [0,2,1] 3,w3,by rw[Xe rfl];exact O⟩ ?_
  rintro J2 z h4 E ⟨i,s,c,d,rfl,hi,o4,w4,w⟩;dsimp only;refine ZG (λhlt2=>?_) λhge2=>?_
  ·have hi0:i=0:=by omega
   subst hi0;rw[Xe rfl]at w;rw[Z1 (by omega)];refine ZI (λs h'=>∃ c d,On h' (c::d::r3::l)/\ZGx pf [] 0 c 278/\Own ZZ d s ((fs.take (j+1)).filter okF)) ?_ λJ3 X=>?_
   .rintro s5 h5 ⟨c5,d5,o5,w5,wd5⟩;exact E _ _ ⟨1,s5,c5,d5,rfl,Xc _,o5,w5,by rw[Xd (by decide)];exact wd5⟩ (by show 1-((0+1:Nat):Int).toNat<1-((0:Nat):Int).toNat;decide)
   .refine ZN M (by decide) (by simp) λq L=>ZQ M (o4.mem (by simp)) rfl L (i:=0) rfl (by rfl) ?_;refine ZOC o4 (g:=r3) (by simp) r4 (ZDr f) hc4 (by omega) λh5 o5=>?_;rw[ZVL D];by_cases F:okF f=true
    .rw [Xe F];rw[Wh,Xe F,Vl]at H;refine Zf rfl ?_;refine ZH (vs:=ZO ZZ [f]) o5 λk6 h6 o6=>?_;have hwl4:=w.1;refine ZW (cd:=ZZ) (g:=ob k6 (ZO ZZ [f]) 161) (s:=s) (t:=⟨sj k6,1,1⟩) (ys:=[f]) (o6.pick [2,0,1,3] 4) rfl w (by decide) (Zk rfl rfl) (o6.get (i:=0) rfl) ?_ λd7 p n m h7 o7 w7=>?_
     .have I:=Wj okF (fs.take j);rw[Xk]at I;refine XG (Xr _ (show _<=200000 by rw[Xv];omega)) (by decide)
     .exact X _ _ ⟨c,d7,o7.pick [2,0,3] 4,w4,by rw[H];exact w7⟩
    .rw [Xd F];rw[Wh,Xd F,Vl,Wl]at H;refine ZU rfl ?_;exact X _ _ ⟨c,d,o5,w4,by rw[H];exact w⟩
  .have hi1:i=1:=by omega
   subst hi1;rw[Xd (by decide)]at w;exact K _ _ ⟨j+1,s,c,d,rfl,by omega,o4.pick [0,1] 3,w4,w⟩ (by show fs.length-((j+1:Nat):Int).toNat<fs.length-(j:Int).toNat;omega)
 .have hje:j=fs.length:=by omega
  subst hje;rw[Xo]at O;exact hq s d h2 (o2.pick [1] 2) O
theorem ZWK{fs:List ZY}(o:On h l)(hg:g∈l)(r:Row ZZ g p fs)(hl:fs.length<=100000)(hq:∀ s d h',On h' (d::l)->Own ZAk d s (ZMU [] [] fs)->Q s h'):cx 72 [Value.slice p.a p.len p.cap] cSl h Q:=by
 refine c72 ?_;have hpl:=r.1;intro k1 hk1;have o1:On _ (Hp.one k1 (ZNI cB .i64 [] 0)::l):=o.new hk1 _;refine ZI (λs h'=>∃ d,On h' (d::l)/\Own ZAk d s (ZMU [] [] fs)) ?_ λJ1 V=>?_
 .rintro s h' ⟨d,o',w'⟩;exact hq s d h' o' w'
 refine Zc (λz h'=>∃ (j:Nat) (s:Sl) (L:List (Int×Bool×Nat)) (D:Nat) (d:Hp) (seen:List Int) (out:List Msg),z=(s,(j:Int))/\j<=fs.length/\On h' (Hp.one k1 (ZNI cB .i64 L D)::d::l)/\Own ZAk d s out/\
   (∀ n,ZQr (c:=cB) false n L=decide (n∈seen))/\(∀ e∈L,e.1∈seen/\e.2.1=true)/\ZMU [] [] fs=ZMU seen out (fs.drop j)/\out.length<=j) (λz=>fs.length-z.2.toNat)
  ⟨0,⟨none,0,0⟩,[],0,Hp.emp,[],[],rfl,Xh _,o1.emp.swap,Own.nil _,(λn=>by simp[ZQr]),(λe F=>by cases F),rfl,Xc _⟩ ?_
 rintro J z h2 K ⟨j,s,L,D,d,seen,out,rfl,hj,o2,w2,H,E,w,hol⟩
 dsimp only;have ab:=w2.1;have I:h2 k1=some (ZNI cB .i64 L D):=o2.get (i:=0) rfl k1 _ (by simp[Hp.one]);refine ZG (λhlt=>?_) λhge=>?_
 ·have Z:j<fs.length:=by omega
  have a0:fs[j]?=some fs[j]:=Xa Z;have hdr:fs.drop j=fs[j]::fs.drop (j+1):=XZ Z;generalize fs[j]=f at*;rw[hdr]at w;rw[ZTp]at w;rw[Z1 (by omega),Z1 (by omega)];refine ZI (λs h'=>∃ (L:List (Int×Bool×Nat)) (D:Nat) (d:Hp) (seen:List Int) (out:List Msg),On h' (Hp.one k1 (ZNI cB .i64 L D)::d::l)/\Own ZAk d s out/\
   (∀ n,ZQr (c:=cB) false n L=decide (n∈seen))/\(∀ e∈L,e.1∈seen/\e.2.1=true)/\ZMU [] [] fs=ZMU seen out (fs.drop (j+1))/\out.length<=j+1) ?_ λJ3 X=>?_
  .rintro s3 h3 ⟨L3,O,d3,M,ac,o3,w3,hg3,hk3,ha3,hl3⟩;exact K _ _ ⟨j+1,s3,L3,O,d3,M,ac,rfl,by omega,o3,w3,hg3,hk3,ha3,hl3⟩ (by show fs.length-((j+1:Nat):Int).toNat<fs.length-(j:Int).toNat;omega)
  refine ZN r (Xb j) (by omega) λq hq'=>ZQ r (o2.mem (by simp[hg])) rfl hq' (i:=j) a0 (by rfl) ?_;refine ZI (λt h'=>h'=h2/\t=decide (f.Seq=0\/f.Seq∈seen)) ?_ λJ4 Y=>?_
  ·rintro t h3 ⟨rfl,rfl⟩;refine ZG (λhs=>?_) λhs=>?_
   .rw [Xe hs]at w;exact X _ _ ⟨L,D,d,seen,out,o2,w2,H,E,w,by omega⟩
   ·rw[Xd hs]at w;refine⟨k1,L,D,rfl,I,λe F hne=>hs (.inr (by rw[hne];exact(E e F).1)),?_⟩;have o4:=o2.upd (b:=k1) (ob:=ZNI cB .i64 L D) (by simp[Hp.one]) (ZNI cB .i64 (L++[(f.Seq,true,D)]) (D+1));rw[ZIB]at o4;refine ZD (λe=>?_) λe=>?_
    .have e:f.Seq≠(out.length+1:Nat):=by
      have:f.Seq≠(s.len+1:Nat):=by simpa using e
      rwa[ab]at this
     rw[Xe e]at w;exact V _ _ ⟨d,o4.pick [1] 2,by rw[w];exact w2⟩
    ·have e:f.Seq=(out.length+1:Nat):=by
      have:f.Seq=(s.len+1:Nat):=by simpa using e
      rwa[ab]at this
     rw[Xd (λh=>h e)]at w;refine ZH (vs:=ZO ZAk [ZDt f]) o4 λk6 h6 o6=>?_;refine ZW (cd:=ZAk) (g:=ob k6 (ZO ZAk [ZDt f]) 59) (s:=s) (t:=⟨sj k6,1,1⟩) (ys:=[ZDt f]) (o6.pick [2,0,1] 3) rfl w2 (by decide) (Zk rfl rfl) (o6.get (i:=0) rfl) ?_ λd7 p n m h7 o7 w7=>?_
     .refine XG (Xr _ (show _<=200000 by rw[Xv];omega)) (by decide)
     .refine X _ _ ⟨L++[(f.Seq,true,D)],D+1,d7,f.Seq::seen,out++[ZDt f],o7.pick [2,0] 3,w7,λn=>?_,λe F=>?_,w,by rw[Xg,Xv];omega⟩
      .rw [ZOM _ _ _ _ (λe F=>(E e F).2),H];by_cases h1:n∈seen<;>by_cases h2:n=f.Seq<;>simp[h1,h2]
      .rcases Xx.1 F with F|F
       .exact ⟨Xq _ (E e F).1,(E e F).2⟩
       .simp only[Xl]at F;subst F;simp
  .refine ZD (λe=>Y _ _ ⟨rfl,?_⟩) λe=>⟨k1,L,D,rfl,I,Y _ _ ⟨rfl,?_⟩⟩
   .have e:f.Seq=0:=by simpa using e
    simp[e]
   .have e:f.Seq≠0:=by simpa using e
    rw[H];simp[e]
 .have hje:j=fs.length:=by omega
  subst hje;rw[XY,ZVJ]at w;exact V _ _ ⟨d,o2.pick [1] 2,by rw[w];exact w2⟩
def ZKT(R:List (List Int)):List ZY:=R.flatMap λb=>(Z9 b).1.filterMap ZET
theorem ZFD:∀ (fs:List ZY),(∀ f∈fs,wfF f)->ZKT (fs.map ZAO)=fs.filter okF
 | [],_=>rfl
 | f::fs,h=>by
   have D:=h f (by simp);have E:=ZFD fs λx H=>h x (by simp[H]);unfold ZKT at E⊢;rw[XS,Yx,E,ZJw f D,Wh];cases e:okF f with
   | true=>
     have w:=ZFN D e;simp only[List.filterMap_cons,w,List.filterMap_nil,Yp];rfl
   | false=>
     have F:ZAm f=[]:=WJ.1 (ZIQ.2 e);have w:ZET []=none:=rfl;simp only[F,List.filterMap_cons,w,List.filterMap_nil,Wb,WR];rfl
def clr(x:LS):LS:={x with out:=[]}
def ZE0(T:VS)(j:Nat):VS:=⟨T.d,(T.ls.take j).map clr++T.ls.drop j⟩
def ZQu(a:List (List Int))(x:LS):List (List Int):=a++x.out
def ZIq(R:List (List (List Int)))(T:VS)(j:Nat):List (List (List Int)):=(List.zipWith ZQu R T.ls).take j++R.drop j
inductive ZUd:VS->List (List (List Int))->List (Int×Int×List Int)->VS->List (List (List Int))->Prop
 | nil {S:VS} {R:List (List (List Int))}:ZUd S R [] S R
 | cons {S T U:VS} {R R':List (List (List Int))} {a:Int×Int×List Int} {la:List (Int×Int×List Int)} {b:Bool}:DoR S a.1 a.2.1 a.2.2 T b->ZUd ⟨T.d,T.ls.map clr⟩ (List.zipWith ZQu R T.ls) la U R'->ZUd S R (a::la) U R'
theorem Za0(h:LOk A B x):LOk A B (clr x):=⟨h.held,h.hl,h.wf,h.al,h.beat,h.sent,h.heard,Xh _,ZDq.nil⟩
theorem ZT1:∀ ls:List LS,pot (ls.map clr)=pot ls
 | []=>rfl
 | x::ls=>by have:=ZT1 ls;unfold pot at*;simp only[XS,WV];rw[this];rfl
theorem ZM0.clr(h:ZM0 n t S):ZM0 n t ⟨S.d,S.ls.map clr⟩:=by obtain⟨N,D,E⟩:=h;refine⟨N,⟨D.w,D.f,λx F=>?_,by dsimp only;rw[We];exact D.n⟩,by dsimp only;rw[ZT1];exact E⟩;obtain⟨y,H,rfl⟩:=Wa.1 F;exact Za0 (D.l y H)
theorem ZQ6(w:j<=T.ls.length):(ZE0 T j).ls.length=T.ls.length:=by unfold ZE0;simp only[Xg,We,Xk,XN];omega
theorem ZVe(w:j<T.ls.length):(ZE0 T j).ls[j]?=some T.ls[j]:=by unfold ZE0;dsimp only;rw[XJ (by simp;omega)];simp only[We,Xk,Wr];rw[show j+(j-min j T.ls.length)=j by omega];exact Xa w
theorem ZFg{l:List α}{x:α}(h:l[j]?=some x):l.take (j+1)=l.take j++[x]:=by rw[XH,h];rfl
theorem ZT9(w:j<T.ls.length):(ZE0 T j).ls.set j (clr T.ls[j])=(ZE0 T (j+1)).ls:=by
 unfold ZE0;dsimp only;have D:((T.ls.take j).map clr).length=j:=by simp;omega
 rw[XZ w,Yg _ _ (by omega),D,Wz,YD,ZFg (Xa w),Wo,Xu];rfl
theorem ZZy{ls:List LS}(w:R[j]?=some a)(D:ls[j]?=some x):(List.zipWith ZQu R ls)[j]?=some (ZQu a x):=by rw[VV,w,D]
theorem ZVx(hl:R.length=T.ls.length)(w:j<R.length):(ZIq R T j)[j]?=some R[j]:=by unfold ZIq;rw[XJ (by simp;omega)];simp only[Xk,YM,Wr];rw[show j+(j-min j (min R.length T.ls.length))=j by omega];exact Xa w
theorem ZTc(hl:R.length=T.ls.length)(D:j<R.length)(w:j<T.ls.length):(ZIq R T j).set j (ZQu R[j] T.ls[j])=ZIq R T (j+1):=by
 unfold ZIq;have E:((List.zipWith ZQu R T.ls).take j).length=j:=by simp;omega
 rw[XZ D,Yg _ _ (by omega),E,Wz,YD,ZFg (ZZy (Xa D) (Xa w)),Xu];rfl
theorem ZBg.open(a:ZBg v S h l):∃ V,On h (V::l)/\∀ h' l',On h' (V::l')->ZBg v S h' l':=by obtain⟨E,D,ps,cs,o,w⟩:=a;have F:On h ((Go.Eng.ob v.b (ZBv v) 152::E::D::cs)++l):=o;obtain⟨o2,H⟩:=On.joined F;exact⟨_,o2,λh' l' o'=>⟨E,D,ps,cs,o'.split H,w⟩⟩
def ZHj(sls:List Sl)(ds:List Hp)(G:Hp)(R:List (List (List Int))):Prop:=
 sls.length=R.length/\ds.length=R.length/\∀ (i:Nat) (s:Sl) (d:Hp) (r:List (List Int)),sls[i]?=some s->ds[i]?=some d->R[i]?=some r->∃ ss,Own cSl d s ss/\ZEb G ss r
theorem ZDE.append{α β:Type}{R:α->β->Prop}:∀ {a:List α} {b:List β} {c:List α} {d:List β},ZDE R a b->ZDE R c d->ZDE R (a++c) (b++d)
 | [],[],c,d,_,h=>h
 | x::a,y::b,c,d,⟨h1,h2⟩,h=>⟨h1,ZDE.append h2 h⟩
theorem ZHj.set(w:ZHj sls ds G R)(O:G.sub G'){s:Sl}(hj:j<R.length)(X:Own cSl d s ss)(V:ZEb G' ss r):ZHj (sls.set j s) (ds.set j d) G' (R.set j r):=by
 obtain⟨K,L,M⟩:=w;refine⟨by simpa using K,by simpa using L,λi Z d' Y E F H=>?_⟩;by_cases D:j=i
 .subst D;rw[XM (by omega)]at E F H;cases E;cases F;cases H;exact⟨ss,X,V⟩
 .rw [WZ D]at E F H;obtain⟨I,w1,w2⟩:=M i Z d' Y E F H;exact⟨I,w1,w2.sub O⟩
theorem ZYR{DS:Hp}(hn8:n<=8)(hSl:S.ls.length=n)(hRl:R.length=n)(a:ZBg v S h (dK::G::DS::l))(E:Own cSl dK ⟨sj k1,n,n⟩ sls)(oD:On DS ds)(I:ZHj sls ds G R)(ho:∀ x∈S.ls,x.out.length<=256)(hr:∀ r∈R,r.length<=100000)(hW:∀ D G' w sls' ds' h',ZBg v ⟨S.d,S.ls.map clr⟩ h' (D::G'::w::l)->Own cSl D ⟨sj k1,n,n⟩ sls'->On w ds'->ZHj sls' ds' G' (List.zipWith ZQu R S.ls)->W h'):
 Ze (0:Int) h λJ2 H h5=>
   ZB (decide (H<(n:Int)))
    (Zb (some {block:=k1,off:=0}) n H λK=>
      ZC cSl (K.add (H.toNat*1)) h5 λs1=>
         cx 70 [vp v.p,vi H] cSl h5 λs2 Z=>
           (Z.rds (K.add (H.toNat*1)) [Value.slice s1.a s1.len s1.cap]/\True)/\
             ZR cSl 85 24 s1.a s1.len s1.cap s2.a s2.len Z λp2 k2 k3 h7=>
              Zb (some {block:=k1,off:=0}) n H λa3=>ZS cSl (a3.add (H.toNat*1)) {a:=p2,len:=k2,cap:=k3} h7 λh8=>J2 (i64.wrap (H+1)) h8)
    (W h5):=by
 have hkl:=E.1;refine Zc (λz h'=>∃ (j:Nat) (dK G DS:Hp) (sls:List Sl) (ds:List Hp),z=(j:Int)/\j<=n/\ZBg v (ZE0 S j) h' (dK::G::DS::l)/\Own cSl dK ⟨sj k1,n,n⟩ sls/\On DS ds/\ZHj sls ds G (ZIq R S j)) (λz=>n-z.toNat)
  ⟨0,dK,G,DS,sls,ds,rfl,Xh _,a,E,oD,I⟩ ?_
 rintro J z h2 L ⟨j,dK,G,DS,sls,ds,rfl,hj,K,E,oD,I⟩
 have hkl:=E.1;refine ZG (λhlt=>?_) λhge=>?_
 .have hj':j<n:=by omega
  have F:j<S.ls.length:=by omega
  have M:j<R.length:=by omega
  have ae:(ZIq R S j).length=n:=by unfold ZIq;simp;omega
  have hsls:sls.length=n:=by rw[I.1,ae]
  have a0:sls[j]?=some sls[j]:=Xa (by omega);have hdl:ds.length=n:=by rw[I.2.1,ae]
  have ab:ds[j]?=some ds[j]:=Xa (by omega);have hrj:=ZVx (j:=j) (T:=S) (by omega) M;obtain⟨ssj,wj,rj⟩:=I.2.2 j _ _ _ a0 ab hrj;generalize hs0:sls[j]=s0 at*;have hat:=ZVe F;have hol:=ZQ6 (T:=S) (j:=j) (by omega);have ZIi:=ZT9 F;have ah:(ZE0 S j).ls[j]'(by omega)=S.ls[j]:=by have h1:=Xa (l:=(ZE0 S j).ls) (i:=j) (by omega);rw[hat]at h1;exact(YV h1).symm
  have hxo:=ho _ (Xs F);have hRj:=hr _ (Xs M);rw[Z1 (by omega)];refine ZN E.row (Xb j) (by omega) λq ac=>ZQ E.row (K.sub (by simp)) rfl ac (i:=j) a0 (by rfl) ?_;refine ZZB (n:=j) K (by omega) (by rw[ah];omega) λs2 ss r Z a6 r6 X=>?_;rw[ah]at a6 X;have a6:ZBg v (ZE0 S (j+1)) Z (r::dK::G::DS::l):=by
   have e:(⟨(ZE0 S j).d,(ZE0 S j).ls.set j (clr S.ls[j])⟩:VS)=ZE0 S (j+1):=by rw[ZIi];rfl
   rw[<-e];exact a6
  cases ac;refine⟨⟨ZYv E.row (a6.sub (by simp)) rfl rfl (i:=j) a0 (by rfl),trivial⟩,?_⟩;obtain⟨V,o6,clV⟩:=a6.open;have o7:On Z (DS::V::r::dK::G::l):=o6.perm (by
   refine List.Perm.trans ?_ (Wg (a:=DS) (l₁:=[V,r,dK,G]) (l₂:=l));exact WO _)
  obtain⟨R7,o8,_,cl8⟩:=ZJs o7 oD ab;have hsl2:=r6.1;have hss:=ZDE.len X;have hwjl:=ZDE.len rj;refine ZW (cd:=cSl) (g:=r) (s:=s0) (t:=s2) (xs:=ssj) (ys:=ss) o8 rfl wj (by decide) r6 (o8.mem (by simp)) ?_ λd9 p9 n9 m9 h9 o9 w9=>?_
  .exact XG (Xr _ (show _<=200000 by omega)) (by decide)
  .obtain ⟨w,o10,oD'⟩:=cl8 h9 d9 _ o9;have o11:On h9 (dK::V::r::G::w::l):=o10.pick [3,1,2,4,0] 5;refine ZN E.row (Xb j) (by omega) λq hq2=>?_;refine ZA4 o11 rfl E hq2 (i:=j) (by omega) rfl λD Y o12 wK'=>?_;have o13:On Y ([r,G]++(V::D::w::l)):=o12.pick [2,3,1,0,4] 5;obtain⟨o14,O⟩:=On.joined o13;have a15:=clV Y _ (o14.swap);refine L _ _ ⟨j+1,D,ZJx [r,G],w,sls.set j ⟨p9,n9,m9⟩,ds.set j d9,rfl,by omega,a15.perm (Xt _ _ _),wK',oD',?_⟩ (by omega);rw[<-ZTc (by omega) M F];exact I.set (O.mem (by simp)) (by omega) w9 (ZDE.append (rj.sub (O.mem (by simp))) (X.sub (O.mem (by simp))))
 .have hje:j=n:=by omega
  subst hje;have e1:ZE0 S S.ls.length=⟨S.d,S.ls.map clr⟩:=by unfold ZE0;rw[Xo,XY,Wl]
  have e2:ZIq R S R.length=List.zipWith ZQu R S.ls:=by unfold ZIq;rw[XY,Wl,XU (by simp;omega)]
  rw[<-hSl,e1]at K;rw[<-hRl,e2]at I;exact hW dK G DS sls ds h2 K E oD I
theorem ZOU:∀ n:Nat,Z0 n [Value.slice none 0 0]=ZO cSl (List.replicate n ⟨none,0,0⟩)
 | 0=>rfl
 | n+1=>by show Value.slice none 0 0::Z0 n [Value.slice none 0 0]=Value.slice none 0 0::ZO cSl (List.replicate n ⟨none,0,0⟩);rw[ZOU n]
theorem Za4{k:Nat}:Own cSl (ob k (Z0 n [Value.slice none 0 0]) e) ⟨sj k,n,n⟩ (List.replicate n ⟨none,0,0⟩):=
 ZAx (rest:=[]) (by rw[ZOU,Wl]) (by simp) (by simp)
theorem On.emps{h:Hp}{l:List Hp}(o:On h l):∀ n:Nat,On h (List.replicate n Hp.emp++l)
 | 0=>o
 | n+1=>(On.emps o n).emp
theorem ZDq.append{b:List (List Int)}(h:ZDq a)(g:ZDq b):ZDq (a++b):=by obtain⟨fs,D,rfl⟩:=h;obtain⟨gs,w,rfl⟩:=g;exact⟨fs++gs,λf E=>(Xx.1 E).elim (D f) (w f),by rw[Wo]⟩
theorem ZYy{ls:List LS}(h:r∈List.zipWith ZQu R ls):∃ a∈R,∃ x∈ls,r=ZQu a x:=by
 obtain⟨i,w⟩:=Ya h;rw[VV]at w;cases D:R[i]? with
 | none=>rw[D]at w;cases w
 | some a=>
   cases E:ls[i]? with
   | none=>rw[D,E]at w;cases w
   | some x=>
     rw[D,E]at w;cases w;exact⟨a,Xn D,x,Xn E,rfl⟩
def ZIn(xs:List Act)(bss:List (List Int)):List (Int×Int×List Int):=List.zipWith (λx b=>(x.Kind,x.Who,b)) xs bss
theorem ZSH{l:List α}{a:α}(h:l[i]?=some a):l.drop i=a::l.drop (i+1):=by obtain⟨w,rfl⟩:=Xi.1 h;exact XZ w
theorem ZVB{x:Act}(D:xs[i]?=some x)(w:bss[i]?=some b):(ZIn xs bss)[i]?=some (x.Kind,x.Who,b):=by unfold ZIn;rw[VV,D,w]
def ZOG(bss:List (List Int)):Nat:=(bss.map List.length).sum
theorem ZR6(h:bss[i]?=some b):ZOG (bss.take (i+1))=ZOG (bss.take i)+b.length:=by unfold ZOG;rw[ZFg h,Wo,YW];simp
theorem ZSp:∀ (bss:List (List Int)) (i:Nat),ZOG (bss.take i)<=ZOG bss
 | [],i=>by simp[ZOG]
 | b::bss,0=>by simp[ZOG]
 | b::bss,i+1=>by have:=ZSp bss i;unfold ZOG at*;simp only[Vu,XS,WV];omega
def ZHt(R:List (List (List Int))):List Nat:=R.map λr=>(ZMU [] [] (ZKT r)).length
theorem Za2{bs:List Bond}{look:Int}(o:On h l)(hb:gb∈l)(rb:Row Zs gb sb bs)(hp:gp∈l)(rp:Row Zu gp sp ps)(K:ZDH bs ps look beat=true)(hga:ga∈l)(ra:Row ZFI ga pa xs)(ai:ZLI l xs bss)(hn:xs.length<=10)(ht:ZOG bss<=6500){Q:ZBz->Hp->Prop}(hq:∀ v S R sn tk w X h',ZBg v S h' (X::l)->Own cSl X tk w->w.map Sl.len=ZHt R->ZUd (ZKb bs ps look beat) (List.replicate ps.length []) (ZIn xs bss) S R->ZM0 xs.length (ZOG bss) S->S.ls.length=ps.length->R.length=ps.length->Q ⟨sn,tk,v.p⟩ h'):
 cx 31 [ZAK.enc ⟨sb,sp,look,beat⟩,Value.slice pa.a pa.len pa.cap] ZBD h Q:=by
 refine c31 (d:=⟨sb,sp,look,beat⟩) (s:=pa) ?_;have hpl:ps.length<=8:=(ZF1 K).pl;have hlp:=rp.1;have hla:=ra.1;refine ZXc o hb rb hp rp K λv h1 a1=>?_;refine ZU rfl ?_;dsimp only;refine⟨by omega,by omega,by omega,by omega,?_⟩;refine a1.new λk1 h2 a2=>?_;have en:((sp.len:Int)).toNat=ps.length:=by omega
 rw[en]at a2⊢;obtain⟨V,o3,clV⟩:=a2.open;have o4:On h2 (List.replicate ps.length Hp.emp++(V::Hp.emp::ob k1 (Z0 ps.length [Value.slice none 0 0]) 163::l)):=On.emps (o3.emp.swap) _;obtain⟨o5,oDS⟩:=On.joined o4;have a5:ZBg v (ZKb bs ps look beat) h2 (ob k1 (Z0 ps.length [Value.slice none 0 0]) 163::Hp.emp::ZJx (List.replicate ps.length Hp.emp)::l):=clV _ _ (o5.pick [1,3,2,0] 4);have hls0:(ZKb bs ps look beat).ls.length=ps.length:=by show (List.replicate _ _).length=_;rw[XX]
 have hacts:∀ i:Nat,i<xs.length->∃ (b:List Int),bss[i]?=some b/\(ZIn xs bss).drop i=((xs[i]?.getD ⟨0,0,⟨none,0,0⟩⟩).Kind,(xs[i]?.getD ⟨0,0,⟨none,0,0⟩⟩).Who,b)::(ZIn xs bss).drop (i+1):=λi hi=>by
  have hi2:i<bss.length:=by rw[<-ai.1];exact hi
  refine⟨bss[i],Xa hi2,?_⟩;rw[Xa hi];exact ZSH (ZVB (Xa hi) (Xa hi2))
 refine Zc (λz h'=>∃ (i:Nat) (S:VS) (R:List (List (List Int))) (dK G DS:Hp) (sls:List Sl) (ds:List Hp),z=(i:Int)/\i<=xs.length/\ZBg v S h' (dK::G::DS::l)/\Own cSl dK ⟨sj k1,ps.length,ps.length⟩ sls/\On DS ds/\ZHj sls ds G R/\
  ZM0 i (ZOG (bss.take i)) S/\S.ls.length=ps.length/\R.length=ps.length/\(∀ r∈R,ZDq r/\r.length<=256*i)/\(∀ S' R',ZUd S R ((ZIn xs bss).drop i) S' R'->ZUd (ZKb bs ps look beat) (List.replicate ps.length []) (ZIn xs bss) S' R')) (λz=>xs.length-z.toNat)
  ⟨0,ZKb bs ps look beat,List.replicate ps.length [],_,Hp.emp,_,_,_,rfl,Xh _,a5,Za4,oDS,?_,⟨0,ZUn K,?_⟩,hls0,XX,?_,λS' R' hR=>hR⟩ ?_
 .refine ⟨by simp,by simp,λi s d r e1 e2 e3=>?_⟩;have e1:=Wp (Xn e1);have e2:=Wp (Xn e2);have e3:=Wp (Xn e3);subst e1;subst e2;subst e3;exact⟨[],Own.nil _,trivial⟩
 ·have:∀ n:Nat,pot (List.replicate n (ZUK beat))=0:=λn=>by
   induction n with
   | zero=>rfl
   | succ n ih=>
     unfold pot at*;rw[Ud,XS,WV,ih];rfl
  show 0+pot (List.replicate ps.length (ZUK beat))<=_;rw[this];exact Xh _
 .intro r K;have:=Wp K;subst this;exact⟨ZDq.nil,Xh _⟩
 rintro J1 z h6 D ⟨i,S,R,dK,G,DS,sls,ds,rfl,hi,a6,wK,oD,M,iv,I,F,hRo,E⟩
 refine ZG (λhlt=>?_) λhge=>?_
 .have hi':i<xs.length:=by omega
  have ax:xs[i]?=some xs[i]:=Xa hi';obtain⟨b,hbb,ZFq⟩:=hacts i hi';rw[ax,Option.getD_some]at ZFq;obtain⟨hby,gx,hgx,rx⟩:=ai.2 i _ b ax hbb;have Y:=ZR6 hbb;have hle:=ZSp bss (i+1);generalize xs[i]=x at*;rw[Z1 (by omega)];refine ZN ra (Xb i) (by omega) λq hq'=>ZQ ra (a6.sub (by simp[hga])) rfl hq' (i:=i) ax (by rfl) ?_;refine ZbD (n:=i) (t:=ZOG (bss.take i)) (p1:=x) (g:=gx) (bs:=b) a6 (by simp[hgx]) rx hby iv (by omega) (by omega) λT h7 bb a7 dr iv7 hl7=>?_;have Z:∀ y∈T.ls,y.out.length<=256/\ZDq y.out:=by obtain⟨N,ok,_⟩:=iv7;exact λy hy=>⟨(ok.l y hy).out,(ok.l y hy).outs⟩
  refine ZYR (n:=ps.length) (R:=R) hpl (hl7.trans I) F a7 wK oD M (λy hy=>(Z y hy).1) (λr K=>by have:=(hRo r K).2;omega) λdK' G' DS' sls' ds' h8 a8 wK' oD' rw8=>?_;refine D _ _ ⟨i+1,_,_,dK',G',DS',sls',ds',rfl,by omega,a8,wK',oD',rw8,?_,by dsimp only;rw[We];exact hl7.trans I,by rw[YM,hl7,I,F,Nat.min_self],λr K=>?_,λS' R' hR=>E S' R' ?_⟩ (by omega)
  .rw [Y];exact iv7.clr
  .obtain ⟨a0,ha0,y,hy,rfl⟩:=ZYy K;have h1:=hRo a0 ha0;have h2:=Z y hy;refine⟨h1.1.append h2.2,?_⟩;show (a0++y.out).length<=_;rw[Xg];omega
  .rw [ZFq];exact ZUd.cons dr hR
 ·have hie:i=xs.length:=by omega
  subst hie;have hbl:bss.take xs.length=bss:=by rw[ai.1,Xo]
  rw[hbl]at iv;have E:=E S R (by
   rw[List.drop_of_length_le (by unfold ZIn;rw[YM];omega)];exact ZUd.nil)
  have hsl:sls.length=ps.length:=by rw[M.1,F]
  have hdl:ds.length=ps.length:=by rw[M.2.1,F]
  obtain⟨V6,o6,clV6⟩:=a6.open;have o7:On h6 (Hp.emp::Hp.emp::V6::dK::G::DS::l):=o6.emp.emp;refine Zc (λz h'=>∃ (j:Nat) (sn tk:Sl) (dSn X:Hp) (O w:List Sl),z=(⟨sn,tk,v.p⟩,(j:Int))/\j<=ps.length/\On h' (dSn::X::V6::dK::G::DS::l)/\Own cSl dSn sn O/\Own cSl X tk w/\O.length=j/\w.map Sl.len=ZHt (R.take j)) (λz=>ps.length-z.2.toNat)
   ⟨0,⟨none,0,0⟩,⟨none,0,0⟩,Hp.emp,Hp.emp,[],[],rfl,Xh _,o7,Own.nil _,Own.nil _,rfl,rfl⟩ ?_
  rintro J3 z h8 D ⟨j,sn,tk,dSn,X,O,w,rfl,hj,o8,wS,wT,hsn,L⟩
  dsimp only;refine ZG (λY=>?_) λhge2=>?_
  .have hj':j<ps.length:=by omega
   have a0:sls[j]?=some sls[j]:=Xa (by omega);have hdj:ds[j]?=some ds[j]:=Xa (by omega);have hRj:R[j]?=some R[j]:=Xa (by omega);obtain⟨ss,wss,rss⟩:=M.2.2 j _ _ _ a0 hdj hRj;obtain⟨⟨fs,hfs,H⟩,hfl⟩:=hRo _ (Xs (by omega:j<R.length));have H:R[j]=fs.map ZAO:=H;have hdsub:(ds[j]).sub DS:=oD.2 _ (Xs (by omega));have htk:=ZFg hRj;have hfv:=ZFD fs hfs;rw[<-H]at hfv;have hfsl:fs.length<=2560:=by
    have:R[j].length=fs.length:=by rw[H,We]
    omega
   rw[H]at rss;generalize R[j]=rj at*;generalize sls[j]=s3 at*;rw[Z1 (by omega)];refine ZN wK.row (Xb j) (by omega) λq hq'=>ZQ wK.row (o8.mem (by simp)) rfl hq' (i:=j) a0 (by rfl) ?_;refine ZNj (g:=DS) (G:=G) o8 (by simp) (by simp) (wss.row.sub hdsub) rss hfs (by omega) λs4 d10 h10 o10 w10=>?_;refine ZH (vs:=ZO cSl [s4]) o10 λk4 h11 o11=>?_;refine ZW (cd:=cSl) (g:=ob k4 (ZO cSl [s4]) 165) (s:=sn) (t:=⟨sj k4,1,1⟩) (ys:=[s4]) (o11.pick [2,0,1,3,4,5,6,7] 8) rfl wS (by decide) (Zk rfl rfl) (o11.get (i:=0) rfl) ?_ λd12 p12 n12 m12 h12 o12 w12=>?_
   .exact XG (Xr _ (show _<=200000 by rw[Xv];omega)) (by decide)
   refine ZWK (g:=d10) o12 (by simp) w10.row (XG (Wj _ _) (by omega)) λs5 d13 h13 o13 w13=>?_;have hs5:=w13.1;refine ZH (vs:=ZO cSl [s5]) o13 λk7 h14 o14=>?_;have htl:w.length=j:=by have:=congrArg List.length L;unfold ZHt at this;simp at this;omega
   refine ZW (cd:=cSl) (g:=ob k7 (ZO cSl [s5]) 144) (s:=tk) (t:=⟨sj k7,1,1⟩) (ys:=[s5]) (o14.pick [5,0,2,6,7,8,9] 10) rfl wT (by decide) (Zk rfl rfl) (o14.get (i:=0) rfl) ?_ λd15 p15 n15 m15 h15 o15 w15=>?_
   .exact XG (Xr _ (show _<=200000 by rw[Xv];omega)) (by decide)
   refine D _ _ ⟨j+1,⟨p12,n12,m12⟩,⟨p15,n15,m15⟩,d12,d15,O++[s4],w++[s5],rfl,by omega,o15.pick [2,0,3,4,5,6] 7,w12,w15,by rw[Xg,hsn];rfl,?_⟩ (by show ps.length-((j+1:Nat):Int).toNat<ps.length-(j:Int).toNat;omega);rw[Wo,L,htk];unfold ZHt;rw[Wo,XS,YB,XS,YB,hs5,hfv]
  .have hje:j=ps.length:=by omega
   subst hje;have hRt:R.take ps.length=R:=by rw[<-F,Xo]
   rw[hRt]at L;have a9:ZBg v S h8 (X::l):=clV6 h8 _ (o8.pick [2,1] 6);exact hq v S R sn tk w X h8 a9 wT L E iv I F
structure FS where
 s:SS
 out:List ZY
def FS.ls(x:FS):LS:=⟨[],0,x.s,x.out.map ZAO⟩
def ZOT(st:SS×List ZY×Bool)(f:ZY):SS×List ZY×Bool:=
 if st.2.1.length<256 then (st.1,st.2.1++[f],st.2.2) else ((ZM8 st.1).1,st.2.1,st.2.2||(ZM8 st.1).2)
def ZNn(st:SS×List ZY×Bool)(fs:List ZY):SS×List ZY×Bool:=fs.foldl ZOT st
def ZUc(st:SS×List ZY×Bool):SS×List (List Int)×Bool:=(st.1,st.2.1.map ZAO,st.2.2)
theorem ZPW(st:SS×List ZY×Bool)(f:ZY):ZBq (ZUc st) f=ZUc (ZOT st f):=by
 unfold ZBq ZOT ZUc;dsimp only;rw[We];split
 .rw [Wo];rfl
 .rfl
theorem ZHx:∀ (fs:List ZY) (st:SS×List ZY×Bool),ZA7 (ZUc st) fs=ZUc (ZNn st fs)
 | [],st=>rfl
 | f::fs,st=>by show ZA7 (ZBq (ZUc st) f) fs=ZUc (ZNn (ZOT st f) fs);rw[ZPW,ZHx fs]
def lsF(x:FS)(m:Msg):FS:=
 if (ZAt x.s m).2.2=true then ⟨(ZNn ((ZAt x.s m).1,x.out,false) [(ZAt x.s m).2.1]).1,(ZNn ((ZAt x.s m).1,x.out,false) [(ZAt x.s m).2.1]).2.1⟩ else ⟨(ZAt x.s m).1,x.out⟩
theorem Za6(x:FS)(m:Msg):lsV x.ls m=(lsF x m).ls:=by
 have h:=ZHx [(ZAt x.s m).2.1] ((ZAt x.s m).1,x.out,false);have e:ZUc ((ZAt x.s m).1,x.out,false)=((ZAt x.s m).1,x.ls.out,false):=rfl;rw[e]at h;unfold lsV ZFb lsF;have w:x.ls.s=x.s:=rfl;rw[w];split
 .rw [h];rfl
 .rfl
def ZE6(st:List FS×Bool)(o:Out):List FS×Bool:=
 if 0<=o.To/\o.To<st.1.length then match st.1[o.To.toNat]? with
  | none=>st
  | some x=>(st.1.set o.To.toNat (lsF x (ZKk o)),st.2||(x.s.up&&!(lsF x (ZKk o)).s.up))
 else st
def ZOj(ls:List FS)(os:List Out):List FS×Bool:=os.foldl ZE6 (ls,false)
theorem ZMp(st:List FS×Bool)(o:Out)(h:(ZE6 st o).2=false):st.2=false:=by
 unfold ZE6 at h;split at h
 .split at h
  .exact h
  .simp only[WP]at h;exact h.1
 .exact h
theorem ZGp:∀ (os:List Out) (st:List FS×Bool),(os.foldl ZE6 st).2=false->st.2=false
 | [],_,h=>h
 | o::os,st,h=>ZMp st o (ZGp os _ h)
def ZLh(dn:List Bool):Prop:=∀ i:Nat,dn[i]?.getD false=false
theorem ZPO{st:List FS×Bool}{o:Out}(h:(ZE6 st o).2=false)(w:ZLh dn):(ZBX (st.1.map FS.ls,dn) o).1=(ZE6 st o).1.map FS.ls/\ZLh (ZBX (st.1.map FS.ls,dn) o).2:=by
 unfold ZE6 at h⊢;unfold ZBX;dsimp only;rw[We];by_cases D:0<=o.To/\o.To<st.1.length
 ·rw[Xe D]at h⊢;rw[Xe D];rw[Yf];cases F:st.1[o.To.toNat]? with
  | none=>exact⟨rfl,w⟩
  | some x=>
    rw[F]at h;dsimp only[Option.map_some]at h⊢;simp only[WP]at h;rw[Za6];refine⟨by rw[VP],λi=>?_⟩;by_cases E:o.To.toNat=i
    .subst E;by_cases hl:o.To.toNat<dn.length
     .rw [XM hl,w];exact h.2
     .rw [XP (by rw[Xp];omega)];rfl
    .rw [WZ E];exact w i
 .rw [Xd D,Xd D];exact⟨rfl,w⟩
theorem ZI1:∀ (os:List Out) {st:List FS×Bool} {dn:List Bool},(os.foldl ZE6 st).2=false->ZLh dn->(os.foldl ZBX (st.1.map FS.ls,dn)).1=(os.foldl ZE6 st).1.map FS.ls/\ZLh (os.foldl ZBX (st.1.map FS.ls,dn)).2
 | [],st,dn,_,hd=>⟨rfl,hd⟩
 | o::os,st,dn,h,hd=>by
   rw[Xy]at h⊢;rw[Xy];have w:=ZPO (ZGp os _ h) hd;have e:ZBX (st.1.map FS.ls,dn) o=((ZE6 st o).1.map FS.ls,(ZBX (st.1.map FS.ls,dn) o).2):=by rw[<-w.1]
   rw[e];exact ZI1 os h w.2
theorem ZYS(h:ZLh dn):dn.any id=false:=by rw[YK];intro x D;obtain⟨i,w⟩:=Ya D;have:=h i;rw[w]at this;simpa using this
theorem ZaI{d:DS}{ls:List FS}(h:(ZOj ls os).2=false)(t:ZSh ⟨d,ls.map FS.ls⟩ os T):T=⟨d,(ZOj ls os).1.map FS.ls⟩:=by
 have w:=ZI1 os (st:=(ls,false)) (dn:=List.replicate (ls.map FS.ls).length false) h (λi=>by
  cases E:(List.replicate (ls.map FS.ls).length false)[i]? with
  | none=>rfl
  | some x=>rw[Wp (Xn E)];rfl)
 unfold ZSh ZBJ at t;dsimp only at t w;have e:=ZYS w.2;cases t with
 | done _=>
   show VS.mk d _=VS.mk d _;rw[w.1];rfl
 | step D _=>rw[e]at D;cases D
def ZPd(who:Int):DS->List FS->List ZY->Option (DS×List FS)
 | d,ls,[]=>some (d,ls)
 | d,ls,f::fs=>if (ZOj ls (doD d who f.Seq (ZDt f)).2).2=true then none else ZPd who (doD d who f.Seq (ZDt f)).1 (ZOj ls (doD d who f.Seq (ZDt f)).2).1 fs
theorem ZXB{who:Int}:∀ (fs:List ZY) {d d':DS} {ls ls':List FS} {T:VS},ZPd who d ls fs=some (d',ls')->ZJr who ⟨d,ls.map FS.ls⟩ fs T->T=⟨d',ls'.map FS.ls⟩
 | [],d,d',ls,ls',T,h,a=>by
   unfold ZPd at h;cases h;cases a;rfl
 | f::fs,d,d',ls,ls',T,h,a=>by
   unfold ZPd at h;split at h
   .cases h
   ·rename_i w;cases a with
    | cons t D=>
      have e:=ZaI (by simpa using w) t;subst e;exact ZXB fs h D
def ZGH(x:FS)(f:ZY):FS×List ZY×Bool:=
 (⟨(ZNn ((Zt x.s f).1,x.out,false) (Zt x.s f).2.1).1,(ZNn ((Zt x.s f).1,x.out,false) (Zt x.s f).2.1).2.1⟩,
   if (Zt x.s f).2.2.2.1=true then [mkF f.Seq (Zt x.s f).2.2.1] else [],
   (Zt x.s f).2.2.2.2||(ZNn ((Zt x.s f).1,x.out,false) (Zt x.s f).2.1).2.2)
theorem ZZn{x:FS}(D:wfF f)(O:okF f=true):ZCC x.ls (ZAO f)=((ZGH x f).1.ls,(ZGH x f).2.1,(ZGH x f).2.2):=by have L:=ZJw f D;have M:=ZFN D O;have w:=ZHx (Zt x.s f).2.1 ((Zt x.s f).1,x.out,false);unfold ZCC;have E:x.ls.held=[]:=rfl;have F:x.ls.lost=0:=rfl;have H:x.ls.s=x.s:=rfl;have I:x.ls.out=x.out.map ZAO:=rfl;rw[E,F,H,I,XV,L];dsimp only;rw[Xy,List.foldl_nil];unfold ZAy;rw[M];dsimp only;have K:ZUc ((Zt x.s f).1,x.out,false)=((Zt x.s f).1,x.out.map ZAO,false):=rfl;rw[K]at w;rw[w];unfold ZGH ZUc FS.ls;dsimp only;rw[Yk,XV]
def ZO0(d:DS)(ls:List FS)(who:Nat)(f:ZY):Option (DS×List FS):=
 match ls[who]? with
 | none=>none
 | some x=>if (ZGH x f).2.2=true then none else match ZPd (who:Int) d (ls.set who (ZGH x f).1) (ZGH x f).2.1 with
   | none=>none
   | some r=>match r.2[who]? with
     | none=>none
     | some y=>if (ZGH x f).1.s.up=true/\y.s.up=false then none else some r
variable {ls':List FS}
theorem ZYP{d:DS}{ls:List FS}{who:Nat}{b:Bool}(hw:wfF f)(Y:okF f=true)(h:ZO0 d ls who f=some (d',ls'))(r:DoR ⟨d,ls.map FS.ls⟩ 1 (who:Int) (ZAO f) T b):T=⟨d',ls'.map FS.ls⟩:=by
 unfold ZO0 at h;cases I:ls[who]? with
 | none=>rw[I]at h;cases h
 | some x=>
   rw[I]at h;dsimp only at h;have Z:who<ls.length:=(Xi.1 I).1;split at h
   .cases h
   ·rename_i E;have E:(ZGH x f).2.2=false:=by simpa using E
    cases L:ZPd (who:Int) d (ls.set who (ZGH x f).1) (ZGH x f).2.1 with
    | none=>rw[L]at h;cases h
    | some rr=>
      rw[L]at h;dsimp only at h;cases O:rr.2[who]? with
      | none=>rw[O]at h;cases h
      | some y=>
        rw[O]at h;dsimp only at h;split at h
        .cases h
        .rename_i M;cases h;unfold DoR at r;rw[Xd (by decide),Xd (by intro hn;exact hn ⟨by omega,by dsimp only;rw[We];omega⟩),Xe rfl]at r;obtain⟨_,x0,w,r⟩:=r;rw[XD]at w r;dsimp only at w;rw[Yf,I]at w;simp only[WD,XT]at w;subst w;obtain⟨U,y0,K,D,H⟩:=r;rw[ZZn hw Y]at K H;dsimp only at K H;have V:(ls.map FS.ls).set who (ZGH x f).1.ls=(ls.set who (ZGH x f).1).map FS.ls:=by rw[VP]
         rw[V]at K;have e:=ZXB _ L K;subst e;dsimp only at D;rw[Yf,O]at D;simp only[WD,XT]at D;subst D;rw[Xd (by
          rintro(F|⟨F,X⟩)
          .rw [E]at F;cases F
          .exact M ⟨F,X⟩)]at H
         exact H
def ZZd:DS->List FS->List (List ZY)->List (Nat×ZY)->Option (DS×List (List ZY))
 | d,_,R,[]=>some (d,R)
 | d,ls,R,a::la=>match ZO0 d ls a.1 a.2 with
   | none=>none
   | some r=>ZZd r.1 (r.2.map λx=>⟨x.s,[]⟩) (List.zipWith (λa x=>a++x.out) R r.2) la
theorem ZaY:∀ (w:List (Nat×ZY)) {d d':DS} {ls:List FS} {R E:List (List ZY)} {S:VS} {D:List (List (List Int))},(∀ a∈w,wfF a.2/\okF a.2=true)->ZZd d ls R w=some (d',E)->
 ZUd ⟨d,ls.map FS.ls⟩ (R.map λr=>r.map ZAO) (w.map λa=>(1,((a.1:Nat):Int),ZAO a.2)) S D->S.d=d'/\D=E.map λr=>r.map ZAO
 | [],d,d',ls,R,E,S,D,_,h,r=>by
   unfold ZZd at h;cases h;cases r;exact⟨rfl,rfl⟩
 | a::w,d,d',ls,R,E,S,D,hw,h,r=>by
   unfold ZZd at h;cases H:ZO0 d ls a.1 a.2 with
   | none=>rw[H]at h;cases h
   | some F=>
     rw[H]at h;dsimp only at h;rw[XS]at r;cases r with
     | cons I rest=>
       have e:=ZYP (hw a (by simp)).1 (hw a (by simp)).2 H I;subst e;have K:(F.2.map FS.ls).map clr=(F.2.map λx=>(⟨x.s,[]⟩:FS)).map FS.ls:=by rw[List.map_map,List.map_map];rfl
       have L:List.zipWith ZQu (R.map λr=>r.map ZAO) (F.2.map FS.ls)=(List.zipWith (λa x=>a++x.out) R F.2).map λr=>r.map ZAO:=by rw[List.zipWith_map,List.map_zipWith];congr 1;funext a x;unfold ZQu FS.ls;rw[Wo]
       dsimp only at rest;rw[K,L]at rest;exact ZaY w (λx M=>hw x (by simp[M])) h rest
def ZPk:List (Nat×ZY):=[(0,onF 1),(2,onF 1),(0,mkF 1 Zbc),(2,mkF 1 ZO1),(0,mkF 2 Zbi),(2,mkF 2 ZWk)]
def ZKp:Option (DS×List (List ZY)):=ZZd (ZCj (ZBd 0).1 (ZBd 0).2.1 (ZBd 0).2.2.1 (ZBd 0).2.2.2) (List.replicate 5 ⟨ZZA 50,[]⟩) (List.replicate 5 []) ZPk
def wfB(f:ZY):Bool:=[f.Seq,f.Msg_Kind,f.Msg_F_0,f.Msg_F_1,f.Msg_F_2,f.Msg_F_3,f.Msg_F_4,f.Msg_F_5].all λn=>decide (-9223372036854775808<=n)&&decide (n<=9223372036854775807)
theorem Zaa(h:wfB f=true):wfF f:=by unfold wfB at h;rw[Wn]at h;intro n w;have:=h n w;simp only[Xf,Xw]at this;exact this
def ZXE:Bool:=match ZKp with
 | none=>false
 | some r=>(r.1.trades.map λt=>(t.Price,t.Ask))==[(100,1)]&&((r.2.map λr=>(ZMU [] [] (r.filter okF)).length)[0]?==some 5)&&r.2.all λr=>r.all wfB
theorem ZSR:ZXE=true:=by kernel_rfl
theorem ZUD:∃ d' Rf,ZKp=some (d',Rf)/\d'.trades.map (λt=>(t.Price,t.Ask))=[(100,1)]/\(Rf.map λr=>(ZMU [] [] (r.filter okF)).length)[0]?=some 5/\∀ r∈Rf,∀ f∈r,wfF f:=by
 have h:=ZSR;unfold ZXE at h;cases w:ZKp with
 | none=>rw[w]at h;cases h
 | some r=>
   rw[w]at h;simp only[Xf,WS]at h;refine⟨r.1,r.2,rfl,h.1.1,h.1.2,λx E f D=>?_⟩;exact Zaa (Wn.1 (Wn.1 h.2 x E) f D)
theorem ZWT:∀ a∈ZPk,wfF a.2/\okF a.2=true:=by
 intro a w;unfold ZPk at w;simp only[Xm,XW,Ye]at w;rcases w with rfl|rfl|rfl|rfl|rfl|rfl
 .exact ⟨ZJR,by kernel_rfl⟩
 .exact ⟨ZJR,by kernel_rfl⟩
 .exact ⟨ZDJ ZIk ZJ8,by kernel_rfl⟩
 .exact ⟨ZDJ ZIk ZFl,by kernel_rfl⟩
 .exact ⟨ZDJ ZLC ZKI,by kernel_rfl⟩
 .exact ⟨ZDJ ZLC ZHP,by kernel_rfl⟩
theorem ZXJ:ZBd 0=([ZIu,ZEX],ZEO,3,50):=by kernel_rfl
theorem Zcc:ZCe .i64 0 3=0:=by kernel_rfl
theorem Zbv:ZKb [ZIu,ZEX] ZEO 3 50=⟨ZCj [ZIu,ZEX] ZEO 3 50,(List.replicate 5 (⟨ZZA 50,[]⟩:FS)).map FS.ls⟩:=by kernel_rfl
theorem ZcG(s1 s2 s3 s4 s5 s6:Sl):ZIn (ZF9 s1 s2 s3 s4 s5 s6) (ZPm.map λx=>ZAO x.2)=ZPk.map λa=>(1,((a.1:Nat):Int),ZAO a.2):=by kernel_rfl
theorem ZcJ:List.replicate ZEO.length ([]:List (List Int))=(List.replicate 5 ([]:List ZY)).map λr=>r.map ZAO:=by kernel_rfl
theorem Zce:ZOG (ZPm.map λx=>ZAO x.2)<=6500:=by unfold ZOG ZPm;have w:=ZCn ZJR;have D:=ZCn (ZDJ ZIk ZJ8);have E:=ZCn (ZDJ ZIk ZFl);have F:=ZCn (ZDJ ZLC ZKI);have H:=ZCn (ZDJ ZLC ZHP);simp only[XS,YB,WV,VO];omega
theorem ZS5:ZKp=ZZd (ZCj [ZIu,ZEX] ZEO 3 50) (List.replicate 5 ⟨ZZA 50,[]⟩) (List.replicate 5 []) ZPk:=by unfold ZKp;rw[ZXJ]
theorem ZZa:ZDH [ZIu,ZEX] ZEO 3 50=true:=by kernel_rfl
theorem ZRm{s3 s4 s5 s6:Sl}(r:ZUd (ZKb [ZIu,ZEX] ZEO 3 50) (List.replicate ZEO.length []) (ZIn (ZF9 s1 s2 s3 s4 s5 s6) (ZPm.map λx=>ZAO x.2)) S R):
 S.d.trades.map (λt=>(t.Price,t.Ask))=[(100,1)]/\(ZHt R)[0]?=some 5:=by
 obtain⟨d',L,F,K,H,E⟩:=ZUD;rw[Zbv,ZcG,ZcJ]at r;rw[ZS5]at F;obtain⟨D,w⟩:=ZaY ZPk ZWT F r;rw[D];refine⟨K,?_⟩;rw[w];rw[<-H];unfold ZHt;rw[List.map_map];congr 1;refine List.map_congr_left λr I=>?_;show (ZMU [] [] (ZKT (r.map ZAO))).length=_;rw[ZFD r (E r I)]
variable {Q:Bool->Hp->Prop}
theorem ZWQ(o:On h l)(hq:∀ h',On h' l->Q true h'):cx 18 [] cB h Q:=by
 refine c18 ?_;unfold F18;refine ZKF (way:=0) o λsb sp gb gp h1 o1 rb rp=>?_;rw[Zcc,ZXJ]at rb rp⊢;dsimp only at rb rp⊢;refine ZX5 o1 λpa O s1 s2 s3 s4 s5 s6 l2 h2 o2 wa ai=>?_;have ai:=ai.mono (l':=O::(l2++gb::gp::l)) λg hg=>Xq _ hg;have Y:(ZF9 s1 s2 s3 s4 s5 s6).length<=10:=by show 6<=10;omega
 have ab:=λS R=>ZRm (s1:=s1) (s2:=s2) (s3:=s3) (s4:=s4) (s5:=s5) (s6:=s6) (S:=S) (R:=R);have h6:(ZF9 s1 s2 s3 s4 s5 s6).length=6:=rfl;generalize hxs:ZF9 s1 s2 s3 s4 s5 s6=xs at*;have ac:=Zce;generalize hbs:(ZPm.map λx=>ZAO x.2)=bss at*;have ak:=ZZa;have hp5:ZEO.length=5:=rfl;generalize [ZIu,ZEX]=bs at*;generalize ZEO=ps at*;refine Za2 (sb:=sb) (sp:=sp) (pa:=pa) (look:=3) (beat:=50) (bs:=bs) (ps:=ps) (xs:=xs) (bss:=bss) o2 (gb:=gb) (gp:=gp) (ga:=O) (by simp) rb (by simp) rp ak (by simp) wa.row ai Y ac λv S R sn tk H dT h3 a3 wT M K iv hSl hRl=>?_;obtain⟨D,E⟩:=ab S R K;obtain⟨N,ok,hpot⟩:=iv;have aq:H.length=5:=by have:=congrArg List.length M;unfold ZHt at this;rw[We,We]at this;omega
 have ar:=wT.1
 obtain⟨t0,ap,aj,Z⟩:∃ t0,S.d.trades=[t0]/\t0.Price=100/\t0.Ask=1:=by
  match hS:S.d.trades,D with
  | [t0],D=>
    rw[XS,YB]at D;simp only[List.cons.injEq,Prod.mk.injEq,and_true]at D;exact⟨t0,rfl,D.1,D.2⟩
  | [],D=>cases D
  | _::_::_,D=>simp at D
 obtain⟨s0,am,ah⟩:∃ s0,H[0]?=some s0/\s0.len=5:=by
  rw[<-M,Yf]at E;cases hz:H[0]? with
  | none=>rw[hz]at E;cases E
  | some s0=>
    rw[hz]at E;simp only[WD,XT]at E;exact⟨s0,rfl,E⟩
 refine ZI (λt h'=>t=false/\h'=h3) ?_ λJ hJ=>?_
 .rintro t h' ⟨rfl,rfl⟩;refine ZU rfl ?_;dsimp only;refine ZVG a3 ?_;obtain⟨R4,b4,X⟩:=a3.desk;refine ZD4 b4 ok.w (by omega) λs5 d5 h5 b5 I=>?_;rw[ap]at I;have ae:s5.len=1:=I.1;have a5:=X h5 (d5::dT::O::(l2++gb::gp::l)) S.d (b5.perm (Xt _ _ _));refine Zf (by rw[ae];rfl) ?_;refine ZN I.row (by decide) (by simp) λq F=>?_;refine Zd (cd:=Zl) (cf:=ci) I.row (a5.sub (by simp)) rfl F (i:=0) rfl rfl (k:=4) (y:=t0.Price) rfl ?_;refine Zf (by rw[aj];rfl) ?_;refine ZN I.row (by decide) (by simp) λq F=>?_;refine Zd (cd:=Zl) (cf:=ci) I.row (a5.sub (by simp)) rfl F (i:=0) rfl rfl (k:=6) (y:=t0.Ask) rfl ?_;refine Zf (by rw[Z];rfl) ?_;refine ZN wT.row (by decide) (by omega) λq F=>ZQ wT.row (a5.sub (by simp)) rfl F (i:=0) am (by rfl) ?_;rw[ah];obtain⟨V,o9,_⟩:=a5.open;have L:l.Sublist (l2++gb::gp::l):=((Xz gp l).trans (Xz gb _)).trans (List.sublist_append_right l2 _);exact hq h5 (o9.sublist ((((L.cons O).cons dT).cons d5).cons V))
 .refine ZU (by rw[ar,aq];rfl) ?_;exact hJ _ _ ⟨rfl,rfl⟩
def ZXP(a:ZDL):Msg:=⟨a.Msg_Kind,a.Msg_F_0,a.Msg_F_1,a.Msg_F_2,a.Msg_F_3,a.Msg_F_4,a.Msg_F_5⟩
def ZXN(S:DS)(a:ZDL)(os:List Out)(T:DS):Prop:=
 if a.Kind=1 then T=(doD S a.Who a.N (ZXP a)).1/\os=(doD S a.Who a.N (ZXP a)).2
 else if a.Kind=3 then T=(ZAV S a.Who).1/\os=(ZAV S a.Who).2
 else ZEB S T/\ZED os
def ZTz(a:ZDL):Prop:=ZFL (ZXP a)/\I64 a.N
variable {S:DS}{n:Int}
theorem ZEB.now{T:DS}(h:ZEB {S with now:=n} T):ZEB S T:=⟨h.bonds,h.parties,h.look,h.books,h.used,h.trades,h.order,h.seq,h.asks⟩
theorem ZED.append{a b:List Out}(h:ZED a)(g:ZED b):ZED (a++b):=λo w=>(Xx.1 w).elim (h o) (g o)
variable {x:ZDL}
theorem Zax(a:Z7 k S h l)(w:WOk N S)(f:FOk S)(hN:N<=8999)(hx:ZTz x){Q:Sl->Hp->Prop}(H:∀ s d os T h',Z7 k T h' (d::l)->Own ZCH d s os->ZXN S x os T->WOk (N+1) T->FOk T->os.length<=1000000->Q s h'):cx 14 [vp k.p,ZCG.enc x] cSl h Q:=by
 refine c14 (d:=x) ?_;unfold ZXN at H;refine ZD (λe=>?_) λe=>?_
 .have e:x.Kind=1:=by simpa using e
  have hd:=ZZ5 (who:=x.Who) (seq:=x.N) (m:=ZXP x) w f (by omega) hx.1 hx.2;have hlo:=ZKe (c:=ZBU S) (who:=x.Who) (m:=ZXP x) w;have h00:(ZBU S).outs.length=0:=rfl;refine ZMC (who:=x.Who) (seq:=x.N) (m:=ZXP x) a w (by omega) (by omega) λs d h' a' w'=>?_;exact H s d _ _ h' a' w' (by rw[Xe e];exact⟨rfl,rfl⟩) hd.1 hd.2.1 (by have:=hd.2.2.2;omega)
 have Y:x.Kind≠1:=by simpa using e
 refine ZD (λe=>?_) λe=>?_
 .have e:x.Kind=2:=by simpa using e
  refine ZGJ a w f (by omega) λT s outs d h' a' w' ag wk fk qu oo hl=>?_;exact H s d outs T h' a' w' (by rw[Xd Y,Xd (by omega)];exact⟨ag.now,qu⟩) (wk.mono (by omega)) fk (by omega)
 have e2:x.Kind≠2:=by simpa using e
 refine ZD (λe=>?_) λe=>?_
 .have e:x.Kind=3:=by simpa using e
  refine Go.Proofs.YtkmniidiifpdgaaGreat.ZHp (who:=x.Who) a w (by omega) λs d h' a' w' wk hl=>?_;exact H s d _ _ h' a' w' (by rw[Xd Y,Xe e];exact⟨rfl,rfl⟩) (wk.mono (by omega)) (ZJc (who:=x.Who) w f).1 (by omega)
 have e3:x.Kind≠3:=by simpa using e
 have H:∀ s d os T h',Z7 k T h' (d::l)->Own ZCH d s os->(ZEB S T/\ZED os)->WOk (N+1) T->FOk T->os.length<=1000000->Q s h':=λs d os T h' a1 V a3=>H s d os T h' a1 V (by rw[Xd Y,Xd e3];exact a3);obtain⟨D,o,wD⟩:=a;refine Zc (λz h'=>∃ (j:Nat) (s:Sl) (T:DS) (d:Hp) (os:List Out),z=(s,(j:Int))/\j<=40/\Z7 k T h' (d::l)/\Own ZCH d s os/\ZEB S T/\WOk N T/\FOk T/\ZED os/\os.length<=20000*j) (λz=>40-z.2.toNat)
  ⟨0,⟨none,0,0⟩,S,Hp.emp,[],rfl,Xh _,⟨D,o.emp.swap,wD⟩,Own.nil _,ZEB.refl S,w,f,(λo ho=>by cases ho),Xc _⟩ ?_
 rintro J z h2 F ⟨j,s,T,d,os,rfl,hj,V,w2,I,O,K,M,hl2⟩
 dsimp only;refine ZI (λt h'=>h'=h2/\(t=true->j<40)) ?_ λJ2 L=>?_
 .rintro t h3 ⟨rfl,ht⟩;refine ZD (λe=>?_) λe=>H s d os T _ V w2 ⟨I,M⟩ (O.mono (by omega)) K (by omega);have hj40:=ht e;rw[Z1 (by omega)];refine ZGJ V O K (by omega) λT4 s4 E d4 h4 a4 w4 X wk4 Z qu4 oo4 hl4=>?_;obtain⟨D5,o5,wD5⟩:=a4;have o6:On h4 (d::D5::d4::l):=o5.pick [2,0,1] 3;refine ZW (cd:=ZCH) (g:=d4) (s:=s) (t:=s4) (xs:=os) (ys:=E) o6 rfl w2 (by decide) w4.row (o6.mem (by simp)) ?_ λd7 p7 n7 m7 h7 o7 w7=>?_
  .exact XG (Xr _ (show _<=1000000 by omega)) (by decide)
  .exact F _ _ ⟨j+1,⟨p7,n7,m7⟩,T4,d7,os++E,rfl,by omega,⟨D5,o7.pick [1,0] 3,wD5⟩,w7,I.trans X.now,wk4,Z,M.append qu4,by rw[Xg];omega⟩ (by show 40-((j+1:Nat):Int).toNat<40-(j:Int).toNat;omega)
 .exact ZG (λ_=>L _ _ ⟨rfl,λh=>by have:=Ww h;omega⟩) λ_=>L _ _ ⟨rfl,λh=>by cases h⟩
theorem ZcD{T:DS}(w:ZCU S)(r:ZXN S x os T):ZCU T/\ZB4 S T:=by
 unfold ZXN at r;split at r
 .rw [r.1];exact Zch w
 split at r
 .rw [r.1];exact ZWF w (ZK6 S x.Who)
 .exact ⟨λb D=>by
   rw[r.1.books]at D;rw[r.1.parties];exact w b D,r.1.parties,by rw[r.1.bonds],by rw[r.1.books],r.1.look⟩
theorem ZX1(bs:List Bond)(ps:List Z8)(look beat:Int):ZCU (ZCj bs ps look beat):=λb w=>by have:=Wp w;subst this;exact ZCY.nil _
theorem ZXi(bs:List Bond)(ps:List Z8)(look beat:Int):FOk (ZCj bs ps look beat):=by refine⟨λb D=>?_,(λq E=>by cases E),λa w=>by cases w⟩;have:=Wp D;subst this;exact λx F=>by cases F
theorem ZEt(w:Q (ZAd n) h):cx 59 [vi n] cB h Q:=by
 refine c59 (i:=n) ?_;unfold ZAd at w;refine ZD (λe=>?_) λe=>?_
 .have e:n=1:=by simpa using e
  rw[e]at w;exact w
 .rw [e,Yk]at w;exact w
theorem tacts_of{W:World}{s:Sl}(h:Opn TP W 22 [.slice s.a s.len s.cap]):∃ xs:List ZDL,Row ZCG (ZW3 W) s xs/\∀ x∈xs,ZTz x:=by
 obtain⟨_,_,_,xs,E,F⟩:=ZUh (d:=5) (e:=61) (ls:=[(.i .i64,3),(.i .i64,3),(.i .i64,2),(.i .i64,3),(.i .i64,2),(.i .i64,2),(.i .i64,2),(.i .i64,2),(.i .i64,2),(.i .i64,2)]) (cd:=ZCG)
  (λx=>⟨x.1,x.2.1,x.2.2.1,x.2.2.2.1,x.2.2.2.2.1,x.2.2.2.2.2.1,x.2.2.2.2.2.2.1,x.2.2.2.2.2.2.2.1,x.2.2.2.2.2.2.2.2.1,x.2.2.2.2.2.2.2.2.2⟩) (λ_=>rfl) h (by kernel_rfl) (by kernel_rfl) (by kernel_rfl)
 refine⟨xs,E,λx D=>?_⟩;obtain⟨y,w,_,_,k0,k1,H,I,K,L,M,O⟩:=F x D;subst w;exact⟨⟨ZKr k1,ZKr H,ZKr I,ZKr K,ZKr L,ZKr M,ZKr O⟩,ZKr k0⟩
def ZJY(a b:ZE):Bool:=if a.Price≠b.Price then Z5 a.Side a.Price b.Price else decide (a.Seq<b.Seq)
theorem ZOP(E:s=1\/s=2){a b:ZE}(D:a.Side=s):if ZJY a b=true then Lo s a b else Lo s b a:=by
 unfold ZJY Lo Z5;rw[ZGq,ZGq,D];by_cases w:a.Price=b.Price
 .rw [Xd (not_not_intro w)];by_cases h:a.Seq<b.Seq
  .rw [Xe (XB h)];omega
  .rw [Xd (by simpa using h)];omega
 .rw [Xe w];simp only[Wf,Xf,WS,Xw];by_cases h:s=1/\a.Price>b.Price\/s=2/\a.Price<b.Price
  .rw [Xe h];omega
  .rw [Xd h];omega
variable {k:Nat}{x:ZE}
theorem ZaC(X:out.Pairwise (Lo s))(M:∀ y∈out.take k,Lo s y x)(O:∀ y,out[k]?=some y->Lo s x y):
 (out.take k++([x]++out.drop k)).Pairwise (Lo s)/\(out.take k++([x]++out.drop k)).Perm (out++[x]):=by
 have D:=X;rw[<-XO k out]at D;obtain⟨p1,F,Y⟩:=YI.1 D
 have V:∀ z∈out.drop k,Lo s x z:=by
  intro z w;have e:(out.drop k)[0]?=out[k]?:=by rw[Wr,Vq]
  cases K:out.drop k with
  | nil=>rw[K]at w;cases w
  | cons y r=>
    rw[K]at w F e;have L:=O y e.symm;rcases Xm.1 w with rfl|w
    .exact L
    .exact L.trans ((Wm.1 F).1 z w)
 refine⟨YI.2 ⟨p1,Wm.2 ⟨V,F⟩,λa I b E=>?_⟩,?_⟩
 .rcases Xm.1 E with rfl|E
  .exact M a I
  .exact Y a I b E
 .have H:(out.take k++x::out.drop k).Perm (x::(out.take k++out.drop k)):=Wg;rw[XO]at H;exact H.trans (List.perm_append_singleton x out).symm
theorem ZRX:∀ {l:List ZE},(l.map λx=>x.ID).Nodup->∀ {a b:ZE},a∈l->b∈l->a.ID=b.ID->a=b
 | [],_,a,_,ha,_,_=>by cases ha
 | x::l,hn,a,b,ha,hb,e=>by
   rw[XS,Vk]at hn;rcases Xm.1 ha with h1|h1<;>rcases Xm.1 hb with h2|h2
   .rw [h1,h2]
   .exact absurd (Wa.2 ⟨b,h2,by rw[<-e,h1]⟩) hn.1
   .exact absurd (Wa.2 ⟨a,h1,by rw[e,h2]⟩) hn.1
   .exact ZRX hn.2 h1 h2 e
variable {l:List ZE}{m:ZE}
theorem ZF0(I:(l.map λx=>x.ID).Nodup)(E:m∈l):l.Perm (m::ZAE l m.ID):=by
 obtain⟨a,l1,l2,_,F,D,H⟩:=List.exists_of_eraseP (p:=λo:ZE=>o.ID==m.ID) E (by simp);have w:a∈l:=by rw[D];simp
 have:a=m:=ZRX I w E (by simpa using F);subst this;unfold ZAE;rw[H];conv=>lhs;rw[D]
 exact Wg
variable {t:List ZE}
theorem ZTh(K:(l.map λx=>x.ID).Nodup)(L:ZBx l)(h:ZAa l s=m::t):ZAa (ZAE l m.ID) s=t:=by
 have F:m∈l/\m.Side=s:=ZAR.1 (by rw[h];simp);have D:∀ x∈l.filter (λo=>o.Side==s),x.Side=s:=λx E=>by simpa using (Wk.1 E).2
 have w:=ZNG D;have I:ZIj (l.filter λo=>o.Side==s)=m::t:=h;rw[I]at w;have H:=(ZF0 K F.1).filter λo=>o.Side==s;rw[Wh,Xe (by simp[F.2])]at H;refine(ZHH (λx E=>by simpa using (Wk.1 E).2) ?_ (w.2.trans H).cons_inv (Wm.1 w.1).2).symm;exact L.sublist (((YN).trans (ZAG l m.ID)).map _)
theorem ZP7(H:(l.map λx=>x.ID).Nodup)(I:ZBx l)(h:ZAl l o how=m::t)(D:o'.Side=o.Side)(F:o'.Price=o.Price):ZAl (ZAE l m.ID) o' how=t:=by
 unfold ZAl at h⊢;have E:ZBc how o'=ZBc how o:=by funext x;unfold ZBc;rw[D,F]
 rw[D,E];cases w:ZAa l (ZAf o.Side) with
 | nil=>rw[w]at h;cases h
 | cons y r=>
   rw[w,Vd]at h;split at h
   .cases h;rw[ZTh H I w]
   .cases h
def ZFr(how:Int)(c:ZCL):ZCL:=(ZAl c.l c.o how).foldl Zo c
variable {c:ZCL}
theorem ZIN(h:c.o.Left=0\/ZAl c.l c.o how=[]):ZFr how c=c:=by
 unfold ZFr;rcases h with h|h
 .exact ZEs _ _ h
 .rw [h];rfl
theorem ZMy(E:(c.l.map λx=>x.ID).Nodup)(F:ZBx c.l)(h:ZAl c.l c.o how=m::t):ZFr how (Zo c m)=ZFr how c:=by
 have e:ZFr how c=t.foldl Zo (Zo c m):=by unfold ZFr;rw[h];rfl
 rw[e];by_cases D:(Zo c m).o.Left=0
 .rw [ZIN (.inl D),ZEs _ _ D]
 .have w:=ZEr c m;unfold ZFr;rw[ZI6 D,ZP7 E F h w.2.2.2.1 w.2.2.2.2]
structure ZBE (l:List ZE):Prop where
 ids:(l.map λx=>x.ID).Nodup
 seqs:ZBx l
 ok:∀ x∈l,Zn x=true
 len:l.length<=64
theorem ZBE.nil:ZBE []:=⟨by simp,by simp[ZBx],by simp,by simp⟩
theorem ZBE.sub(h:ZBE l)(w:l'.Sublist l):ZBE l':=
 ⟨h.ids.sublist (w.map _),h.seqs.sublist (w.map _),λx D=>h.ok x (w.subset D),XG w.length_le h.len⟩
theorem ZAq(h:Zn x=true):1<=x.Price/\x.Price<=1000000/\1<=x.Left/\x.Left<=1000000/\0<=x.Owner/\(x.Side=1\/x.Side=2):=by unfold Zn ZAd at h;simp only[Xf,Wf,WS,Xw]at h;omega
theorem ZBE.less(h:ZBE l)(id left:Int):ZBE (ZC6 l id left).1:=by
 rcases ZD1 l id left with e|⟨i,o,E,_,H,I,e⟩
 .rw [e];exact h
 .rw [e];have L:=Xn E;have D:=(Xi.1 E).1;have F:∀ f:ZE->Int,f (ZA2 o left)=f o->(l.set i (ZA2 o left)).map f=l.map f:=λf K=>by
   rw[VP,K];have:f o=(l.map f)[i]'(by simpa using D):=by rw[VH,(Xi.1 E).2]
   rw[this,WH]
  refine⟨by rw[F _ rfl];exact h.ids,by unfold ZBx;rw[F _ rfl];exact h.seqs,λx w=>?_,by rw[Xp];exact h.len⟩;rcases XK w with w|w
  .exact h.ok x w
  .subst w;exact ZIJ (h.ok o L) H I
theorem ZBE.meet(x:ZE)(h:ZBE c.l):ZBE (Zo c x).l:=by
 unfold Zo;split
 .exact h
 .split
  .exact h.sub (ZAG _ _)
  .dsimp only;split
   .exact h.sub (ZAG _ _)
   .exact h.less _ _
def ZD8(st:Int×Int)(x:ZE):Int×Int:=(st.1-min st.1 x.Left,st.2+x.Price*min st.1 x.Left)
def ZEU(l:List ZE):Int:=(l.map λx=>x.Left).sum
def ZDe(l:List ZE)(s qty:Int):Int×Bool:=if qty<1\/ZEU (l.filter λx=>x.Side==s)<qty then (0,false) else (((ZAa l s).foldl ZD8 (qty,0)).2,true)
theorem ZLH{a b:List ZE}(h:a.Perm b):ZEU a=ZEU b:=by
 induction h with
 | nil=>rfl
 | cons x _ E=>simp only[ZEU,XS,WV]at *;rw[E]
 | swap x y l=>simp only[ZEU,XS,WV];omega
 | trans _ _ w D=>exact w.trans D
theorem ZHD(a b:List ZCg):ZHA (a++b)=ZHA a+ZHA b:=by simp[ZHA]
theorem ZOW{acc:List ZCg}{v:ZCg}(h:acc.getLast?=some v):∃ a,acc=a++[v]:=List.getLast?_eq_some_iff.1 h
theorem ZXm(acc:List ZCg)(x:ZE):ZHA (ZAr acc x)=ZHA acc+x.Left:=by
 unfold ZAr;cases h:acc.getLast? with
 | none=>dsimp only;rw[ZHD];simp[ZHA]
 | some v=>
   obtain⟨a,rfl⟩:=ZOW h;dsimp only;split
   .rw [Xg,Xv,Ui,Yg _ _ (Xc _),Wz,YD,ZHD,ZHD];simp[ZHA];omega
   .rw [ZHD];simp[ZHA]
theorem ZOf:∀ (ys:List ZE) (acc:List ZCg),ZHA (ys.foldl ZAr acc)=ZHA acc+ZEU ys
 | [],acc=>by simp[ZEU]
 | x::ys,acc=>by rw[Xy,ZOf ys,ZXm];simp[ZEU];omega
theorem ZXD:∀ (ls:List ZCg) (st:Int×Int),0<=st.1->0<=(ls.foldl ZAH st).1
 | [],_,h=>h
 | v::ls,st,h=>by rw[Xy];refine ZXD ls _ ?_;show 0<=st.1-min st.1 v.Qty;omega
theorem ZTs{acc:List ZCg}{st:Int×Int}(D:0<=st.1)(I:0<=x.Left)(E:∀ v∈acc,0<=v.Qty):(ZAr acc x).foldl ZAH st=ZD8 (acc.foldl ZAH st) x:=by
 unfold ZAr;cases h:acc.getLast? with
 | none=>dsimp only;rw[WX];rfl
 | some v=>
   obtain⟨a,rfl⟩:=ZOW h;dsimp only;split
   .rename_i e;rw[Xg,Xv,Ui,Yg _ _ (Xc _),Wz,YD,WX,WX];have F:=ZXD a st D;have H:=E v (by simp);generalize a.foldl ZAH st=s1 at*;obtain⟨q,c⟩:=s1;dsimp only at F;simp only[Xy,List.foldl_nil,ZAH,ZD8];have w:min q (v.Qty+x.Left)=min q v.Qty+min (q-min q v.Qty) x.Left:=by omega
    rw[w,e,Int.mul_add];exact Prod.ext (by dsimp only;omega) (by dsimp only;omega)
   .rw [WX];rfl
theorem ZY0{acc:List ZCg}(E:0<=x.Left)(D:∀ v∈acc,0<=v.Qty):∀ v∈ZAr acc x,0<=v.Qty:=by
 intro v w;unfold ZAr at w;split at w
 .rename_i u F;have H:=D u (List.mem_of_getLast? F);split at w
  .rcases XK w with w|w
   .exact D v w
   .subst w;dsimp only;omega
  .rcases Xx.1 w with w|w
   .exact D v w
   .rw [Xl.1 w];exact E
 .rcases Xx.1 w with w|w
  .exact D v w
  .rw [Xl.1 w];exact E
theorem ZJg{st:Int×Int}(w:0<=st.1):∀ (ys:List ZE) (acc:List ZCg),(∀ x∈ys,0<=x.Left)->(∀ v∈acc,0<=v.Qty)->(ys.foldl ZAr acc).foldl ZAH st=ys.foldl ZD8 (acc.foldl ZAH st)
 | [],_,_,_=>rfl
 | x::ys,acc,hy,ha=>by have D:=hy x (by simp);rw[Xy,ZJg w ys _ (λz E=>hy z (by simp[E])) (ZY0 D ha),ZTs w D ha,Xy]
theorem ZW0(h:ZBE l)(s:Int):ZE7 l s qty=ZDe l s qty:=by
 have w:ZHA (ZCI l s)=ZEU (l.filter λx=>x.Side==s):=by unfold ZCI;rw[ZOf];unfold ZAa;rw[ZLH (ZCq _)];simp[ZHA]
 unfold ZE7 ZDe;rw[w];split
 .rfl
 .rename_i E;unfold ZCI;rw[ZJg (by dsimp only;omega) _ _ (λx D=>by have:=ZAq (h.ok x (ZAR.1 D).1);omega) (by simp)];rfl
variable {p:Int}
theorem ZPU(h:ZBE l)(w:ZLW l s p q=0):(s=1\/s=2)/\1<=p/\1<=q/\((ZDe l (3-s) q).2=true->(s=1->p*q<=(ZDe l (3-s) q).1)/\(s=2->(ZDe l (3-s) q).1<=p*q)):=by
 unfold ZLW at w;split at w
 .cases w
 ·rename_i F;have E:s=1\/s=2:=by
   have:ZAd s=true:=by
    cases e:ZAd s with
    | true=>rfl
    | false=>exact absurd (.inl e) F
   simpa[ZAd]using this
  rw[ZGe E,ZW0 h]at w;refine⟨E,by omega,by omega,λD=>?_⟩;rw[Xd (by rw[D];simp)]at w;split at w
  .cases w
  .rename_i H;omega
variable {a:Int}
theorem ZTX{b:Int}(w:Q (decide (a<=n/\n<=b)) h):cx 198 [vi n,vi a,vi b] cB h Q:=by refine c198 ?_;exact ZJ0 w
variable {b:Bond}{Q:Int->Hp->Prop}
theorem ZLZ(E:b.Tick≠0)(w:Q (ZCv b p) h):cx 243 [Zs.enc b,vi p] ci h Q:=by
 refine c243 ?_;unfold ZCv at w;refine ZTX (ZD (λe=>?_) λe=>⟨E,ZD (λD=>?_) λD=>?_⟩)
 .rwa [Xd (by simp at e;omega)]at w
 .rwa [Xe (by simpa using e),Xd (by simpa using D)]at w
 .rwa [Xe (by simpa using e),Xe (by simpa using D)]at w
theorem ZMx(E:b.Lot≠0)(w:Q (ZPl b p) h):cx 235 [Zs.enc b,vi p] ci h Q:=by
 refine c235 ?_;unfold ZPl at w;refine ZTX (ZD (λe=>?_) λe=>⟨E,ZD (λD=>?_) λD=>?_⟩)
 .rwa [Xd (by simp at e;omega)]at w
 .rwa [Xe (by simpa using e),Xd (by simpa using D)]at w
 .rwa [Xe (by simpa using e),Xe (by simpa using D)]at w
theorem ZMD(E:b.Tick≠0)(hl:b.Lot≠0)(w:Q (ZD9 b p q) h):cx 234 [Zs.enc b,vi p,vi q] ci h Q:=by
 refine c234 ?_;unfold ZD9 at w;refine ZD (λe=>?_) λe=>?_
 .rwa [Xe e]at w
 .rw [Xd (by rw[e];simp)]at w;refine ZLZ E (ZD (λD=>?_) λD=>?_)
  .rw [Xd (by simpa using D)]at w;exact ZMx hl w
  .rwa [Xe (by simpa using D)]at w
variable {b:Int}{Q:Bool->Hp->Prop}
theorem ZGE(E:Q (Z5 s a b) h):cx 127 [vi s,vi a,vi b] cB h Q:=by
 refine c127 ?_;unfold Z5 at E;have key:∀ {t:Bool},(t=false->Q ((s==2)&&decide (a<b)) h)->t=false->ZB (s==2) (Q (decide (a<b)) h) (Q false h):=λD F=>by have D:=D F;exact ZD (λe=>by rwa[e,Wq]at D) λe=>by rwa[e,WU]at D
 refine ZD (λe=>ZD (λw=>?_) λw=>key (λ_=>?_) w) λe=>key (λ_=>?_) e
 .rwa [e,w]at E
 .rwa [e,w]at E
 .rwa [e]at E
theorem ZTD(w:Q (ZGw s a b) h):cx 367 [vi s,vi a,vi b] cB h Q:=by
 refine c367 ?_;unfold ZGw at w;refine ZEt (ZD (λe=>?_) λe=>?_)
 .rw [e,Wq]at w;exact ZGE w
 .rwa [e,WU]at w
theorem ZIT{Q:Int->Hp->Prop}(w:Q (ZAf s) h):cx 307 [vi s] ci h Q:=by
 refine c307 ?_;unfold ZAf at w;refine ZEt (ZD (λe=>?_) λe=>?_)
 .rwa [Xd (by simpa using e)]at w
 .have e:ZAd s=true:=by simpa using e
  rw[Xe e]at w;have:=ZDX.1 e;rwa[w64 (by omega) (by omega)]
theorem ZLn{y:ZE}(w:Q ((y.Side==ZAf x.Side)&&ZBc how x y) h):cx 346 [ZF.enc x,vi how,ZF.enc y] cB h Q:=by refine c346 ?_;unfold ZBc at w;refine ZIT (ZD (λe=>?_) λe=>by rwa[e,WU]at w);rw[e,Wq]at w;exact ZD (λe=>by rwa[e,WI]at w) λe=>ZTD (by rwa[e,Yk]at w)
theorem ZSI{y:ZE}(w:Q (ZJY x y) h):cx 77 [ZF.enc x,ZF.enc y] cB h Q:=by
 refine c77 ?_;unfold ZJY at w;refine ZD (λe=>ZGE ?_) λe=>?_
 .rwa [Xe (by simpa using e)]at w
 .rwa [Xd (by simpa using e)]at w
theorem ZUO(w:Q (Zn x) h):cx 21 [ZF.enc x] cB h Q:=by
 refine c21 (d:=x) ?_;unfold Zn at w;refine ZD (λD=>ZD (λE=>ZD (λF=>ZD (λH=>ZD (λI=>ZD (λK=>ZD (λL=>?_) λe=>?_) λe=>?_) λe=>?_) λe=>?_) λe=>?_) λe=>?_) λe=>?_;all_goals simp only[ge_iff_le,Xw,Wc] at*
 all_goals simp only[*,decide_true,decide_false,Wq,WU]at w
 .exact ZEt w
 all_goals exact w
theorem ZYZ(w:j<=64):ZBK .i64 a (j:Int)=a / 2 ^ j:=by show a.fdiv (2 ^ (min ((j:Int)).toNat 64))=_;rw[XD,Yo w,WG _ (Vw (Ua (by decide)))]
theorem ZX6(x:Int):ZCe .i64 x 1=x % 2:=by
 show i64.wrap ((BitVec.ofInt 64 x &&& BitVec.ofInt 64 1).toNat:Int)=_;have e:(BitVec.ofInt 64 x &&& BitVec.ofInt 64 1).toNat=(x % 2).toNat:=by rw[VJ,YF,show (BitVec.ofInt 64 1).toNat=2 ^ 1-1 from rfl,YP];omega
 rw[e,w64 (by omega) (by omega)];omega
theorem ZRU(w:0<=n)(D:n<18446744073709551616):u64.wrap n=n:=by rw[ZBb];omega
variable {Q:ZBL×Bool->Hp->Prop}
theorem ZJi{a b:ZBL}(O:∀ r:ZBL×Bool,(∀ x y:Int,0<=x->0<=y->x+y<18446744073709551616->a=⟨0,x⟩->b=⟨0,y⟩->r=(⟨0,x+y⟩,true))->Q r h):
 cx 48 [Zm.enc a,Zm.enc b] (ZV [Zm,cB]) h Q:=by
 refine c48 ?_;have hu:∀ n:Int,0<=u64.wrap n:=λn=>by rw[ZBb];omega
 refine ZI (λn h'=>h'=h/\n=if u64.wrap (a.Lo+b.Lo)<a.Lo then 1 else 0) ?_ λJ M=>?_
 .rintro n L ⟨rfl,I⟩;have key:∀ x y:Int,0<=x->0<=y->x+y<18446744073709551616->a=⟨0,x⟩->b=⟨0,y⟩->n=0/\u64.wrap (a.Lo+b.Lo)=x+y/\a.Hi=0/\b.Hi=0:=λx y L V X Y Z=>by subst Y Z;dsimp only at I⊢;rw[ZRU (by omega) X]at I⊢;exact⟨by rw[I,Xd (by omega)],rfl,rfl,rfl⟩
  refine ZI (λt h'=>h'=L/\(t=true->∀ x y:Int,0<=x->0<=y->x+y<18446744073709551616->a=⟨0,x⟩->b=⟨0,y⟩->False)) ?_ λJ2 E=>?_
  .rintro t V ⟨rfl,ht⟩;refine ZD (λe=>O _ λx y w D a3 a4 a5=>(ht e x y w D a3 a4 a5).elim) λ_=>O _ λx y w D a3 a4 a5=>?_;obtain⟨k1,K,F,H⟩:=key x y w D a3 a4 a5;rw[K,k1,F,H];rfl
  .refine ZG (λe=>E _ _ ⟨rfl,λ_ x y w D a3 a4 a5=>?_⟩) λ_=>E _ _ ⟨rfl,λe x y w D a3 a4 a5=>?_⟩
   .obtain ⟨k1,K,F,H⟩:=key x y w D a3 a4 a5;rw[F,H]at e;exact absurd e (by decide)
   .obtain ⟨k1,K,F,H⟩:=key x y w D a3 a4 a5;rw[k1,F,H]at e;exact absurd (Ww e) (by decide)
 .exact ZG (λe=>M _ _ ⟨rfl,by rw[Xe e]⟩) λe=>M _ _ ⟨rfl,by rw[Xd e]⟩
theorem ZEW(V:∀ r:ZBL×Bool,(0<=a->a<=1000000000->0<=b->b<=1000000000->r=(⟨0,a*b⟩,true))->Q r h):
 cx 16 [vi a,vi b] (ZV [Zm,cB]) h Q:=by
 refine c16 ?_;refine ZI (λt h'=>h'=h/\t=decide (a<0\/b<0)) ?_ λJ O=>?_
 ·rintro t E ⟨rfl,rfl⟩;refine ZG (λe=>V _ λ_ _ _ _=>by omega) λe=>?_;refine Zc (λz h'=>h'=E/\∃ i:Nat,i<=63/\z.2=(i:Int)-1/\(a<=1000000000->b<=1000000000->z.1=⟨0,a / 2 ^ i*b⟩)) (λz=>(z.2+1).toNat) ⟨rfl,63,Xc _,rfl,λh _=>?_⟩ ?_
  .have:a / 2 ^ 63=0:=by omega
   rw[this,Int.zero_mul]
  rintro J2 ⟨x,z⟩ w again ⟨rfl,i,hi,hz,hx⟩
  dsimp only at hz hx⊢;subst hz;refine ZG (λab=>?_) λae=>?_
  ·have ac:0<i:=by omega
   obtain⟨j,rfl⟩:∃ j,i=j+1:=⟨i-1,by omega⟩
   have Y:(((j+1:Nat):Int)-1)=(j:Int):=by omega
   rw[Y];refine ZI (λy h'=>h'=w/\(a<=1000000000->b<=1000000000->y=⟨0,a / 2 ^ j*b⟩)) ?_ λJ3 H=>?_
   .rintro y h3 ⟨rfl,hy⟩;rw[w64 (by omega) (by omega)];exact again _ _ ⟨rfl,j,by omega,rfl,hy⟩ (by dsimp only;omega)
   ·have D:∀ k:Nat,a<=1000000000->b<=1000000000->0<=a / 2 ^ k*b/\a / 2 ^ k*b<=1000000000000000000:=λk E w=>by have p0:0<=a / 2 ^ k:=Int.ediv_nonneg (by omega) (Vw (Ua (by decide)));have p1:a / 2 ^ k<=1000000000:=Int.le_trans (Int.ediv_le_self _ (by omega)) E;refine⟨YZ p0 (by omega),?_⟩;have:=VA p1 w (by omega) (by omega:(0:Int)<=1000000000);omega
    have F:a / 2 ^ j=2*(a / 2 ^ (j+1))+a / 2 ^ j % 2:=by
     have:a / 2 ^ (j+1)=a / 2 ^ j / 2:=by rw[Int.pow_succ,Int.ediv_ediv_of_nonneg (Vw (Ua (by decide)))]
     rw[this];omega
    have I:ZCe .i64 (ZBK .i64 a (u64.wrap (j:Int))) 1=a / 2 ^ j % 2:=by rw[ZRU (by omega) (by omega)];have X:ZBK .i64 a (j:Int)=a / 2 ^ j:=ZYZ (by omega);rw[X];exact ZX6 _
    refine ZJi λr hr=>⟨by rw[ZBb];omega,?_⟩
    rw[I];have K:a<=1000000000->b<=1000000000->r.1=⟨0,a / 2 ^ (j+1)*b+a / 2 ^ (j+1)*b⟩:=λE w=>by have:=D (j+1) E w;rw[hr _ _ this.1 this.1 (by omega) (hx E w) (hx E w)]
    refine ZD (λe=>?_) λe=>?_
    .have e:a / 2 ^ j % 2=1:=by simpa using e
     refine ZJi (a:=r.1) (b:=⟨0,u64.wrap b⟩) λr2 M=>H _ _ ⟨rfl,λE w=>?_⟩;have k:=D (j+1) E w;have k2:=D j E w;have L:a / 2 ^ j*b=_*b:=congrArg (λx=>x*b) F;rw[e,Int.add_mul,Int.one_mul,Int.mul_assoc]at L;rw[M _ b (by omega) (by omega) (by omega) (K E w) (by rw[ZRU (by omega) (by omega)])];dsimp only;congr 1;omega
    .have e:a / 2 ^ j % 2=0:=by
      have:a / 2 ^ j % 2≠1:=by simpa using e
      omega
     refine H _ _ ⟨rfl,λE w=>?_⟩;have L:a / 2 ^ j*b=_*b:=congrArg (λx=>x*b) F;rw[e,Int.add_zero,Int.mul_assoc]at L;rw[K E w];congr 1;omega
  .have:i=0:=by omega
   subst this;refine V _ λ_ w _ Z=>?_;rw[hx w Z,Int.pow_zero,Int.ediv_one]
 .refine ZG (λe=>O _ _ ⟨rfl,(XB (.inl e)).symm⟩) λe=>O _ _ ⟨rfl,XE.2 (by omega)⟩
variable {Q:Int->Hp->Prop}
theorem ZRh{a b:ZBL}(H:∀ n:Int,(∀ x y:Int,a=⟨0,x⟩->b=⟨0,y⟩->(n<0↔x<y)/\(n>0↔y<x))->Q n h):cx 17 [Zm.enc a,Zm.enc b] ci h Q:=by
 refine c17 (d:=a) (e:=b) ?_;refine ZD (λe=>H _ λx y w D=>?_) λe=>?_
 .subst w D;have e:x=y:=by simpa using e
  omega
 .refine ZI (λt h'=>h'=h/\∀ x y:Int,a=⟨0,x⟩->b=⟨0,y⟩->t=decide (x<y)/\x≠y) ?_ λJ F=>?_
  .rintro t V ⟨rfl,L⟩;refine ZD (λE=>H _ λx y w D=>?_) λE=>H _ λx y w D=>?_
   .obtain ⟨k1,M⟩:=L x y w D;have:=Ww (k1▸E);omega
   .obtain ⟨k1,M⟩:=L x y w D;have:=Vm (k1▸E);omega
  .have O:∀ x y:Int,a=⟨0,x⟩->b=⟨0,y⟩->x≠y:=λx y w D I=>by subst w D I;simp at e
   refine ZG (λE=>F _ _ ⟨rfl,λx y w D=>?_⟩) λE=>ZD (λK=>F _ _ ⟨rfl,λx y w D=>?_⟩) λK=>F _ _ ⟨rfl,λx y w D=>?_⟩
   .subst w D;exact absurd E (Int.lt_irrefl 0)
   .have:=O x y w D;subst w D;exact⟨rfl,this⟩
   .subst w D;exact absurd K (by simp)
section
variable {cd cf:Cdc}{e:TypeId}{p:Option Addr}{xs ys:List cd.T}{c g h:Hp}{l:List Hp}{s t:Sl}{bytes z:Nat}
theorem ZEC(w:Zv cd e p xs c)(D:c.sub h){K:Sl->Prop}(F:∀ sl d,d.sub h->Own cd d sl xs->K sl):ZM p λa=>ZC cSl (a.add 0) h K:=by obtain⟨b,sl,d,rfl,E,H⟩:=w;exact ZK (Hp.sub_trans (E.get (i:=0) rfl) D) (x:=sl) rfl (F sl d (Hp.sub_trans (E.mem (by simp)) D) H)
theorem ZG9(w:Zv cd e p xs c)(L:c.sub h)(O:cd.mem=true)(V:cd.n=z){x:cd.T}(D:xs[i]?=some x){K:cd.T->Prop}(H:K x):
 ZM p λF=>ZC cSl (F.add 0) h λs=>Zb s.a s.len (i:Int) λa=>ZC cd (a.add ((i:Int).toNat*z)) h K:=
 ZEC w L λsl d M E=>ZN E.row (Xb i) (by have:=(Xi.1 D).1;omega) λa I=>ZQ E.row M O I D (by rw[V];rfl) H
theorem ZDR(w:Zv cd e p xs c)(L:c.sub h)(O:cd.mem=true)(X:cd.n=z){x:cd.T}(F:xs[i]?=some x){y:cf.T}(V:((cd.enc x).cells.toList.drop k).take (cf.enc y).cells.toList.length=(cf.enc y).cells.toList){K:cf.T->Prop}(I:K y):
 ZM p λH=>ZC cSl (H.add 0) h λs=>Zb s.a s.len (i:Int) λa=>ZC cf ⟨(a.add ((i:Int).toNat*z)).block,(a.add ((i:Int).toNat*z)).off+k,none⟩ h K:=
 ZEC w L λsl d M D=>ZN D.row (Xb i) (by have:=(Xi.1 F).1;omega) λa E=>by rw[D.part_at E];exact Zd (cd:=cd) (cf:=cf) D.row M O E F (by rw[X];rfl) V I
theorem ZUF(w:Zv cd e p xs c)(L:c.sub h)(O:cd.mem=true)(X:cd.n=z){x:cd.T}(D:xs[i]?=some x){y:cf.T}(V:((cd.enc x).cells.toList.drop 0).take (cf.enc y).cells.toList.length=(cf.enc y).cells.toList){K:cf.T->Prop}(H:K y):
 ZM p λF=>ZC cSl (F.add 0) h λs=>Zb s.a s.len (i:Int) λa=>ZC cf ((a.add ((i:Int).toNat*z)).add 0) h K:=
 ZEC w L λsl d M E=>ZN E.row (Xb i) (by have:=(Xi.1 D).1;omega) λa I=>Zd (cd:=cd) (cf:=cf) E.row M O I D (by rw[X];rfl) V H
theorem ZIV{id:Int}{key:cd.T->Int}(K:∀ x,((cd.enc x).cells.toList.drop 0).take 1=[vi (key x)])(w:Zv cd e p xs c)(Y:c.sub h)(hm:cd.mem=true)(hz:cd.n=z)(hl:xs.length<=1000000000)(M:Q (ZMT (xs.findIdx? λx=>key x==id)) h):
 Ze (0:Int) h λJ L E=>ZM p λa1=>ZC cSl (a1.add 0) E λs1=>ZB (decide (L<(s1.len:Int)))
   (ZM p λa2=>ZC cSl (a2.add 0) E λs2=>Zb s2.a s2.len L λa3=>ZC ci ((a3.add (L.toNat*z)).add 0) E λn2=>ZB (n2==id) (Q L E) (J (i64.wrap (L+1)) E)) (Q (-1) E):=by
 refine Zc (λn h'=>h'=h/\∃ i:Nat,n=i/\i<=xs.length/\∀ (j:Nat) (y:cd.T),j<i->xs[j]?=some y->key y≠id) (λn=>xs.length-n.toNat) ⟨rfl,0,rfl,Xh _,λj y H=>by omega⟩ ?_;rintro J n E D ⟨rfl,i,rfl,hi,F⟩
 refine ZEC w Y λsl d hd wd=>?_;have Z:=wd.1;refine ZG (λV=>?_) λhge=>?_
 ·have I:i<xs.length:=by omega
  have a0:xs[i]?=some xs[i]:=Xa I;refine ZUF w Y hm hz a0 (cf:=ci) (y:=key xs[i]) (K _) (ZD (λe=>?_) λe=>?_)
  .have:xs.findIdx? (λx=>key x==id)=some i:=WA.2 ⟨I,e,λj H=>by
    have:=F j _ H (Xa (by omega));simpa using this⟩
   rw[this]at M;exact M
  .rw [Z1 (by omega)];refine D _ _ ⟨rfl,i+1,rfl,by omega,λj y H X=>?_⟩ (by omega);by_cases O:j=i
   .subst O;rw[a0]at X;cases X;simpa using e
   .exact F j y (by omega) X
 .have:xs.findIdx? (λx=>key x==id)=none:=WL.2 λx hx=>by obtain⟨j,H⟩:=Ya hx;have V:=(Xi.1 H).1;have:=F j x (by omega) H;simpa using this
  rw[this]at M;exact M
theorem ZDo{m:Nat}(o:On h (c::l))(w:Own cd c s ys)(O:g.sub h)(H:Own cd g t xs)(E:cd.mem=true)(F:0<cd.n)(X:z=cd.n)(V:k<=m)(D:m<=xs.length)(M:bytes<=1024)(hl:ys.length+xs.length<=1000000000){K:Option Addr->Nat->Nat->Hp->Prop}(L:∀ c' q n r h',On h' (c'::l)->Own cd c' ⟨q,n,r⟩ (ys++(xs.drop k).take (m-k))->K q n r h'):ZR cd e bytes s.a s.len s.cap (Zh t.a k t.cap z) (m-k) h K:=by
 refine ZW (g:=g) (t:=⟨Zh t.a k t.cap z,m-k,m-k⟩) o E w F (H.row.cut V D (H.le_cap F) E X (cap':=m-k)) O ?_ L;have I:ys.length+((xs.drop k).take (m-k)).length<=1000000000:=by rw[Xk,XN];omega
 exact XG (Vy I M) (by decide)
theorem ZBW{n:Nat}{x:cd.T}{D:TypeId}(o:On h (ob n (cd.enc x).cells.toList D::c::l))(w:Own cd c s ys)(H:cd.mem=true)(I:0<cd.n)(F:bytes<=1024)(hl:ys.length<1000000000){K:Option Addr->Nat->Nat->Hp->Prop}(E:∀ c' q n r h',On h' (c'::l)->Own cd c' ⟨q,n,r⟩ (ys++[x])->K q n r h'):ZR cd e bytes s.a s.len s.cap (sj n) 1 h K:=by
 refine ZW (g:=ob n (cd.enc x).cells.toList D) (t:=⟨sj n,1,1⟩) (ys:=[x]) o.swap H w I (Zk (by rw[ZAc];simp[ZO]) rfl) (o.get (i:=0) rfl) ?_ λc' q n r h' o'=>E c' q n r h' (o'.sublist (XC _ (Xz _ _)));rw[Xv];exact XG (Vy (show _<=1000000000 by omega) F) (by decide)
theorem ZEI{w:TypeId}:Own cd (ob k [] w) ⟨sj k,0,0⟩ []:=ZAx (rest:=[]) rfl rfl (by simp)
theorem ZXX{x:cd.T}{vs:List Value}(hv:vs=(cd.enc x).cells.toList)(o:On h l)(hg:g∈l)(wg:Own cd g t xs)(L:cd.mem=true)(M:0<cd.n)(hz:z=cd.n)(hk:k<=xs.length)(K:bytes<=1024)(hl:xs.length<=100000000){R:Hp->Prop}(hR:∀ h',On h' l->R h'){X:Option Addr->Nat->Nat->Hp->Prop}(hX:∀ c' q n r h',On h' (c'::l)->Own cd c' ⟨q,n,r⟩ (xs.take k++[x])->X q n r h'):
 (ZJ (.cells [].toArray e) h λD E=>ZR cd e bytes (sj D) 0 0 (Zh t.a 0 t.cap z) (k-0) E λq n r w=>R w/\ZJ (.cells vs.toArray e) w λF Y=>ZR cd e bytes q n r (sj F) 1 Y X)/\
 (ZJ (.cells [].toArray e) h λD E=>ZJ (.cells vs.toArray e) E λF Y=>ZR cd e bytes (sj D) 0 0 (Zh t.a 0 t.cap z) (k-0) Y λq n r w=>R w/\ZR cd e bytes q n r (sj F) 1 w X):=by
 subst hv;have Z:(xs.drop 0).take (k-0)=xs.take k:=by simp
 have hlt:(xs.take k).length<=k:=by rw[Xk];omega
 constructor
 .refine ZH o λD E O=>ZDo (s:=⟨sj D,0,0⟩) O ZEI (O.mem (by simp[hg])) wg L M hz (Xh _) hk K (by simp;omega) λc6 q n r w H I=>⟨hR _ H.tail,?_⟩
  rw[XV,Z]at I;refine ZH H λF h8 V=>?_;exact ZBW (s:=⟨q,n,r⟩) V I L M K (by omega) hX
 .refine ZH o λD E O=>ZH O λF h8 V=>ZDo (s:=⟨sj D,0,0⟩) V.swap ZEI (V.mem (by simp[hg])) wg L M hz (Xh _) hk K (by simp;omega) λc6 q n r w H I=>⟨hR _ H.tail.tail,?_⟩
  rw[XV,Z]at I;exact ZBW (s:=⟨q,n,r⟩) H.swap I L M K (by omega) hX
end
abbrev ZGB:=Zv ZF 136
section
variable {p:Option Addr}{xs:List ZE}{c h:Hp}{l:List Hp}{id:Int}
theorem ZIY(D:c.sub h)(w:ZGB p xs c)(hl:xs.length<=1000)(E:Q (ZMT (xs.findIdx? λo=>o.ID==id)) h):cx 168 [vp p,vi id] ci h Q:=by refine c168 ?_;exact ZIV (key:=ZE.ID) (λ_=>rfl) w D rfl rfl (by omega) E
theorem ZUs(E:c.sub h)(w:ZGB p xs c)(hl:xs.length<=1000){Q:ZE×Bool->Hp->Prop}(D:Q (ZIg xs id) h):cx 304 [vp p,vi id] (ZV [ZF,cB]) h Q:=by
 refine c304 ?_;refine ZIY E w hl ?_;unfold ZIg ZKh at D;cases F:xs.findIdx? λo=>o.ID==id with
 | none=>
   rw[(ZBY F).1]at D;exact Zf rfl D
 | some i=>
   obtain⟨x,I,H,_⟩:=ZAY F;rw[H]at D;exact ZU (Xj (by show ¬((i:Nat):Int)<0;omega)) (ZG9 w E rfl rfl I D)
theorem ZEN(o:On h (c::l))(w:ZGB p xs c)(hl:xs.length<=1000){Q:ZE×Bool->Hp->Prop}(F:∀ r c' h',On h' (c'::l)->ZGB p (ZAE xs id) c'->Q r h'):cx 97 [vp p,vi id] (ZV [ZF,cB]) h Q:=by
 refine c97 ?_;refine ZIY (o.mem (by simp)) w hl ?_;unfold ZAE at F;cases L:xs.findIdx? λo=>o.ID==id with
 | none=>
   rw[(ZBY L).2]at F;exact Zf rfl (F _ c h o w)
 | some i=>
   obtain⟨x,hx,hf,_,E,he⟩:=ZAY L;rw[he]at F;refine ZU (Xj (by show ¬((i:Nat):Int)<0;omega)) ?_;refine ZG9 w (o.mem (by simp)) rfl rfl hx ?_;obtain⟨b,sl,d,rfl,oc,H⟩:=w;have D:=H.1;have K:=H.le_cap (by decide);have I:=o.split oc;dsimp only[ZM];refine ZL (x:=sl) I 0 rfl rfl ⟨Xb i,by show (i:Int)<=_;omega,ZL (x:=sl) I 0 rfl rfl ?_⟩;show Z3 _ _ (some (i64.wrap ((i:Int)+1))) none _;rw[Z1 (by omega)];refine⟨Xb _,by omega,ZH I λk1 h1 M=>?_⟩;simp only[XD,ZMT];refine ZDo (s:=⟨sj k1,0,0⟩) M ZEI (M.mem (c:=d) (by simp)) H rfl (by decide) rfl (Xh _) (Nat.le_of_lt E) (by decide) (by simp;omega) λc2 q n r h2 o2 w2=>⟨⟨Hp.sub_rds (o2.get (i:=1) rfl) (ZBI rfl),trivial⟩,?_⟩
   rw[D];refine ZDo (s:=⟨q,n,r⟩) o2 w2 (o2.mem (c:=d) (by simp)) H rfl (by decide) rfl E (Xc _) (by decide) (by simp;omega) λc3 O n3 V h3 o3 w3=>?_;refine ZX (cd:=cSl) (i:=0) (x:=⟨O,n3,V⟩) (vs':=[sv ⟨O,n3,V⟩]) o3.swap rfl rfl (Xc 1) λZ o4=>?_;obtain⟨X,o5,w5⟩:=Zv.close (o4.pick [0,1] 3) w3;refine F _ X Z o5 ?_;have Y:([]++(xs.drop 0).take (i-0))++(xs.drop (i+1)).take (xs.length-(i+1))=xs.take i++xs.drop (i+1):=by rw[XU (l:=xs.drop (i+1)) (by rw[XN];omega)];simp
   rw[<-Y];exact w5
theorem ZLw(o:On h (c::l))(w:ZGB p xs c)(hl:xs.length<=1000)(D:∀ r c' h',On h' (c'::l)->ZGB p (ZC6 xs id left).1 c'->Q r h'):cx 239 [vp p,vi id,vi left] ci h Q:=by
 refine c239 ?_;refine ZIY (o.mem (by simp)) w hl ?_;unfold ZC6 at D;cases F:xs.findIdx? λo=>o.ID==id with
 | none=>
   rw[F]at D;exact Zf rfl (D _ c h o w)
 | some i=>
   obtain⟨x,H,hf,_,ab,he⟩:=ZAY F;rw[F]at D;dsimp only at D;rw[H]at D;dsimp only at D;refine ZU (Xj (by show ¬((i:Nat):Int)<0;omega)) ?_;refine ZI (λt h'=>h'=h/\t=decide (left<1\/x.Left<left)) ?_ λJ K=>?_
   .rintro t h' ⟨rfl,rfl⟩;refine ZG (λe=>?_) λe=>?_
    .rw [Xe e]at D;exact D _ c h' o w
    .rw [Xd e]at D;obtain⟨b,sl,d,rfl,oc,V⟩:=w;have M:=V.1;refine ZH (o.split oc) λk1 h1 I=>?_;dsimp only[ZM];refine ZL (x:=sl) I 1 rfl rfl ?_;refine ZW (g:=d) (s:=⟨sj k1,0,0⟩) (t:=sl) (xs:=[]) I rfl ZEI (by decide) V.row (I.mem (by simp)) ?_ λc2 q n r h2 o2 E=>?_
     .exact XG (Xr _ (show _<=1000 by simp;omega)) (by decide)
     refine ZX (cd:=cSl) (i:=0) (x:=⟨q,n,r⟩) (vs':=[sv ⟨q,n,r⟩]) o2.swap rfl rfl (Xc 1) λY O=>?_;refine ZL (cd:=cSl) (x:=(⟨q,n,r⟩:Sl)) O 0 rfl rfl ?_;rw[XV]at E;refine ZN (s:=⟨q,n,r⟩) E.row (Xb i) (by omega) λa L=>?_;show ZS ci ⟨(a.add (((i:Int)).toNat*6)).block,(a.add (((i:Int)).toNat*6)).off+5,none⟩ left Y _;rw[E.part_at L];refine Zz (cd:=ZF) (cf:=ci) O.swap rfl rfl E L (i:=i) (x0:=x) H rfl (k:=5) (y:=left) (x':=ZA2 x left) rfl (Xc 6) λc4 Z o4 w4=>?_;obtain⟨X,o5,w5⟩:=Zv.close (o4.pick [1,0] 3) w4;exact D _ X Z o5 w5
   .refine ZG (λe=>K _ _ ⟨rfl,(XB (.inl e)).symm⟩) λe=>?_;refine ZDR w (o.mem (by simp)) rfl rfl H (cf:=ci) (k:=5) (y:=x.Left) rfl ?_;exact K _ _ ⟨rfl,XE.2 (by omega)⟩
theorem ZSr(I:c.sub h)(w:ZGB p xs c)(hl:xs.length<=1000){Q:Bool->Hp->Prop}(K:Q (xs.any λy=>y.ID==id||y.Seq==seq) h):cx 344 [vp p,vi id,vi seq] cB h Q:=by
 refine c344 ?_;refine Zc (λn h'=>h'=h/\∃ i:Nat,n=i/\i<=xs.length/\(xs.any λy=>y.ID==id||y.Seq==seq)=(xs.drop i).any λy=>y.ID==id||y.Seq==seq) (λn=>xs.length-n.toNat) ⟨rfl,0,rfl,Xh _,rfl⟩ ?_;rintro J n M D ⟨rfl,i,rfl,hi,H⟩
 refine ZEC w I λsl d hd X=>?_;have L:=X.1;refine ZG (λV=>?_) λO=>?_
 .have F:i<xs.length:=by omega
  have a0:xs[i]?=some xs[i]:=Xa F;rw[XZ F,List.any_cons]at H;refine ZI (λt h'=>h'=M/\t=(xs[i].ID==id||xs[i].Seq==seq)) ?_ λY E=>?_
  .rintro t Z ⟨rfl,rfl⟩;refine ZD (λe=>?_) λe=>?_
   .rwa [H,e,WI]at K
   .rw [Z1 (by omega)];exact D _ _ ⟨rfl,i+1,rfl,by omega,by rw[H,e,Yk]⟩ (by omega)
  .refine ZUF w I rfl rfl a0 (cf:=ci) (y:=xs[i].ID) rfl (ZD (λe=>E _ _ ⟨rfl,by rw[e,WI]⟩) λe=>?_);refine ZDR w I rfl rfl a0 (cf:=ci) (k:=1) (y:=xs[i].Seq) rfl ?_;exact E _ _ ⟨rfl,by rw[e,Yk]⟩
 .rw [H,YT (by omega)]at K;exact K
theorem ZVk(o:On h (c::l))(w:ZGB p xs c)(hl:xs.length<=1000)(D:∀ r c' h',On h' (c'::l)->ZGB p (ZMZ xs x).1 c'->Q r h'):cx 303 [vp p,ZF.enc x] ci h Q:=by
 refine c303 ?_;unfold ZMZ at D;refine ZI (λt h'=>h'=h/\t=decide (Zn x=false\/xs.any (λy=>y.ID==x.ID||y.Seq==x.Seq)=true)) ?_ λJ F=>?_
 .rintro t h' ⟨rfl,rfl⟩;refine ZG (λe=>?_) λe=>?_
  .rw [Xe e]at D;exact D _ c h' o w
  .rw [Xd e]at D;have Z:=w;obtain⟨b,sl,d,rfl,Y,I⟩:=w;have H:=I.1;have E:=o.split Y;dsimp only[ZM];refine ZL (x:=sl) E 0 rfl rfl (ZG (λL=>?_) λL=>?_)
   .rw [Xe (by omega)]at D;exact D _ c h' o Z
   .rw [Xd (by omega)]at D;refine ZL (x:=sl) E 0 rfl rfl (ZH E λk1 h1 O=>?_);refine ZBW (x:=x) (O.pick [0,2,1] 3) I rfl (by decide) (by decide) (by omega) λc2 q n r h2 o2 w2=>?_;refine ZX (cd:=cSl) (i:=0) (x:=⟨q,n,r⟩) (vs':=[sv ⟨q,n,r⟩]) o2.swap rfl rfl (Xc 1) λM V=>?_;obtain⟨K,X,w5⟩:=Zv.close V w2;exact D _ K M X w5
 .refine ZUO (ZD (λe=>F _ _ ⟨rfl,(XB (.inl (by simpa using e))).symm⟩) λe=>?_);have e:Zn x=true:=by simpa using e
  refine ZSr (o.mem (by simp)) w hl (F _ _ ⟨rfl,?_⟩);rw[XA];simp[e]
end
variable {c:Hp}{l:List Hp}{p:Option Addr}{xs:List ZE}
theorem ZFY(o:On h l)(hc:c∈l)(w:ZGB p xs c)(hb:ZBE xs){Q:Sl->Hp->Prop}(hq:∀ s d h',On h' (d::l)->Own ZF d s (ZAa xs sd)->Q s h'):cx 47 [vp p,vi sd] cSl h Q:=by
 refine c47 ?_;have hl:=hb.len;refine Zc (λz h'=>∃ (i:Nat) (d:Hp) (out:List ZE),z.2=(i:Int)/\i<=xs.length/\On h' (d::l)/\Own ZF d z.1 out/\out.Pairwise (Lo sd)/\out.Perm ((xs.take i).filter λx=>x.Side==sd)) (λz=>xs.length-z.2.toNat)
  ⟨0,Hp.emp,[],rfl,Xh _,o.emp,Own.nil _,YY,WO _⟩ ?_
 rintro J ⟨z,zi⟩ h1 again ⟨i,d,out,hzi,hi,o1,w1,hp,hpm⟩
 dsimp only at hzi w1;subst hzi;dsimp only;have I:c.sub h1:=o1.mem (by simp[hc]);have hol:out.length<=i:=by rw[hpm.length_eq];exact XG (Wj _ _) (by rw[Xk];omega)
 have w':=w;obtain⟨b,sl,d0,rfl,oc,wd⟩:=w';refine ZEC w I λsl1 _ _ wd1=>?_;have hlen1:=wd1.1;refine ZG (λhlt=>?_) λhge=>?_
 ·have ab:i<xs.length:=by omega
  have a0:xs[i]?=some xs[i]:=Xa ab;have hx:=hb.ok _ (Xs ab);have F:(xs.take (i+1)).filter (λx=>x.Side==sd)=(xs.take i).filter (λx=>x.Side==sd)++if (xs[i].Side==sd)=true then [xs[i]] else []:=by rw[XH,a0,WE];simp[Wh]
  generalize xs[i]=x at a0 hx F;rw[Z1 (by omega)];refine ZI (λz2 h'=>∃ d2 D,On h' (d2::l)/\Own ZF d2 z2 D/\D.Pairwise (Lo sd)/\D.Perm ((xs.take (i+1)).filter λx=>x.Side==sd)) ?_ λJ2 V=>?_
  .rintro z2 h2 ⟨d2,D,o2,w2,p2,q2⟩;exact again _ _ ⟨i+1,d2,D,rfl,by omega,o2,w2,p2,q2⟩ (by dsimp only;omega)
  refine ZDR w I rfl rfl a0 (cf:=ci) (k:=3) (y:=x.Side) rfl (ZD (λe=>?_) λe=>?_)
  .rw [Xd (by simpa using e),Wl]at F;exact V _ _ ⟨d,out,o1,w1,hp,by rw[F];exact hpm⟩
  ·have e:x.Side=sd:=by simpa using e
   rw[Xe (by simp[e])]at F;have ah:sd=1\/sd=2:=e▸(ZAq hx).2.2.2.2.2;have ae:∀ y∈out,y.Side=sd:=λy E=>by simpa using (Wk.1 (hpm.mem_iff.1 E)).2
   have hwl:=w1.1;have hcap:=w1.le_cap (by decide);refine Zc (λn h'=>h'=h1/\∃ k:Nat,n=k/\k<=out.length/\∀ y∈out.take k,Lo sd y x) (λn=>out.length-n.toNat) ⟨rfl,0,rfl,Xh _,by simp⟩ ?_;rintro J3 n h3 H ⟨rfl,k,rfl,hk,ac⟩;refine ZI (λt h'=>h'=h3/\(t=true->∃ y,out[k]?=some y/\ZJY y x=true)/\(t=false->∀ y,out[k]?=some y->ZJY y x=false)) ?_ λJ4 X=>?_
   ·rintro t h4 ⟨rfl,ht1,ht2⟩;refine ZD (λe4=>?_) λe4=>?_
    .obtain ⟨y,E,hya⟩:=ht1 e4;have hky:=(Xi.1 E).1;rw[Z1 (by omega)];refine H _ _ ⟨rfl,k+1,rfl,hky,λv M=>?_⟩ (by omega);rw[XH,E]at M;rcases Xx.1 M with M|M
     .exact ac v M
     .have:v=y:=by simpa using M
      subst this;have:=ZOP ah (a:=v) (b:=x) (ae v (Xn E));rwa[Xe hya]at this
    .have L:=ZaC hp ac λy E=>by have:=ZOP ah (a:=y) (b:=x) (ae y (Xn E));rwa[Xd (by rw[ht2 e4 y E];simp)]at this
     have hX:∀ (c':Hp) (q:Option Addr) (n r:Nat) (h':Hp),On h' (c'::d::l)->Own ZF c' ⟨q,n,r⟩ (out.take k++[x])->ZR ZF 74 48 q n r (Zh z.a k z.cap 6) (z.len-k) h' λp3 k11 k12 h9=>J2 ⟨p3,k11,k12⟩ h9:=λc' q n r h' o' w'=>by rw[hwl];refine ZDo (s:=⟨q,n,r⟩) o' w' (o'.mem (c:=d) (by simp)) w1 rfl (by decide) rfl hk (Xc _) (by decide) (by simp;omega) λc2 q2 n2 r2 h2 o2 w2=>?_;rw[Xu,XU (l:=out.drop k) (by rw[XN];omega)]at w2;exact V _ _ ⟨c2,_,o2.pick [0] 2,w2,L.1,by rw[F];exact L.2.trans (hpm.append (WO _))⟩
     have Z:c.sub h4:=I;have hD:∀ h',On h' (d::l)->c.sub h':=λh' o'=>o'.mem (by simp[hc]);have key:∀ a:Addr,sl.a=some a->∀ h',On h' (d::l)->h'.rds ((⟨b,0,none⟩:Addr).add 0) [Value.slice sl.a sl.len sl.cap]/\h'.rds (a.add ((i:Int).toNat*6)) (ZF.enc x).cells.toList/\True:=λa O h' o'=>by refine⟨Hp.sub_rds (Hp.sub_trans (oc.get (i:=0) rfl) (hD h' o')) (ZBI rfl),?_,trivial⟩;obtain⟨y,hr,rfl⟩:=ZQ (K:=λy=>y=x) wd.row (Hp.sub_trans (oc.mem (by simp)) (hD h' o')) rfl O a0 (m:=(i:Int).toNat*6) rfl rfl;exact hr
     refine⟨⟨Xb _,by omega,?_⟩,⟨Xb _,by omega,?_⟩⟩<;>
     .refine ⟨Xb _,by omega,ZK (Hp.sub_trans (oc.get (i:=0) rfl) Z) (x:=sl) rfl ?_⟩;refine ZN wd.row (Xb i) (by omega) λa O=>ZQ wd.row (Hp.sub_trans (oc.mem (by simp)) Z) rfl O (i:=i) a0 (by rfl) ?_;have Y:=ZXX (e:=74) (bytes:=48) (x:=x) rfl o1 (g:=d) (by simp) w1 rfl (by decide) rfl hk (by decide) (by omega) (key a O) hX;first|exact Y.1|exact Y.2
   .refine ZG (λhlt2=>?_) λhge2=>X _ _ ⟨rfl,λe=>(by cases e),λ_ y E=>?_⟩
    .have hk':k<out.length:=by omega
     have ay:out[k]?=some out[k]:=Xa hk';refine ZN w1.row (Xb k) (by omega) λa O=>ZQ w1.row (o1.mem (by simp)) rfl O (i:=k) ay (by rfl) ?_;refine ZG9 w I rfl rfl a0 (ZSI ?_);exact X _ _ ⟨rfl,λe=>⟨_,ay,e⟩,λe y E=>by rw[ay]at E;cases E;exact e⟩
    .have:=(Xi.1 E).1;omega
 .have:i=xs.length:=by omega
  subst this;rw[Xo]at hpm;have M:ZAa xs sd=out:=(ZHH (λx hx=>by simpa using (Wk.1 hx).2) (hb.seqs.sublist ((YN).map _)) hpm hp).symm;exact hq _ d _ o1 (by rw[M];exact w1)
def ZOx(xs:List ZE)(x:ZE)(how:Int):ZE×Bool:=match ZAl xs x how with
 | []=>(ZQm,false)
 | m::_=>(m,true)
theorem ZKx(o:On h l)(X:c∈l)(w:ZGB p xs c)(V:ZBE xs){Q:ZE×Bool->Hp->Prop}(E:∀ h',On h' l->Q (ZOx xs x how) h'):cx 302 [vp p,ZF.enc x,vi how] (ZV [ZF,cB]) h Q:=by
 refine c302 ?_;refine ZIT (ZFY o X w V λs d I M H=>?_);have D:=H.1;have E:=E I M.tail;unfold ZOx ZAl at E;have F:∀ y∈ZAa xs (ZAf x.Side),y.Side=ZAf x.Side:=λy Y=>(ZAR.1 Y).2;cases O:ZAa xs (ZAf x.Side) with
 | nil=>
   rw[O]at D E;refine ZI (λt h'=>h'=I/\t=true) ?_ λJ K=>Zf (by rw[D];rfl) (K _ _ ⟨rfl,rfl⟩);rintro t h' ⟨rfl,rfl⟩;exact Zf rfl E
 | cons m t=>
   rw[O]at D E H F;rw[XI]at D;rw[Vd]at E;refine ZI (λt h'=>h'=I/\t=!ZBc how x m) ?_ λJ K=>ZU (by rw[D];simp;omega) ?_
   .rintro t h' ⟨rfl,rfl⟩;refine ZD (λe=>?_) λe=>?_
    .rwa [Xd (by simpa using e)]at E
    .rw [Xe (by simpa using e)]at E;refine ZN H.row (by decide) (by simp) λa L=>ZQ H.row (M.mem (by simp)) rfl L (i:=0) (x:=m) rfl (by rfl) E
   .refine ZN H.row (by decide) (by simp) λa L=>ZQ H.row (M.mem (by simp)) rfl L (i:=0) (x:=m) rfl (by rfl) (ZLn (K _ _ ⟨rfl,?_⟩));rw[F m (by simp),beq_self_eq_true,Wq]
theorem ZMJ{α:Type}{q:α->Bool}{R:α->α->Prop}(D:∀ a b,R a b->q a=false->q b=false):∀ {l:List α},l.Pairwise R->l.filter q=l.takeWhile q
 | [],_=>rfl
 | a::l,w=>by
   have w:=Wm.1 w;rw[Wh,Vd];split
   .rw [ZMJ D w.2]
   .rename_i e;exact VQ.2 λb E=>by rw[D a b (w.1 b E) (by simpa using e)];simp
theorem ZPr(E:o.Side=1\/o.Side=2)(a b:ZE)(w:ZLT (ZAf o.Side) a b)(D:ZBc how o a=false):ZBc how o b=false:=by rw[ZGe E]at w;unfold ZBc ZGw at D⊢;unfold ZLT at w;simp only[WP,Wy,Ys,Bool.not_eq_false']at D⊢;refine⟨D.1,D.2.imp id λD=>?_⟩;unfold Z5 at w D⊢;simp only[WP,Ys,Wc,Wy,Wf,Xf,Xw,WS]at w D⊢;omega
def ZBm(x:ZE)(how:Int)(y:ZE):Bool:=((y.Side==ZAf x.Side)&&ZBc how x y)&&(y.Owner != x.Owner)
theorem ZIK:∀ {l:List ZE},(∀ x∈l,0<=x.Left/\x.Left<=1000000)->0<=ZEU l/\ZEU l<=l.length*1000000
 | [],_=>by simp[ZEU]
 | x::l,h=>by have D:=h x (by simp);have E:=ZIK λy w=>h y (Xq _ w);simp only[ZEU,XS,WV,XI] at*;omega
theorem ZVM{l:List ZE}(E:ZBE l)(x:ZE)(how:Int):ZGt l x how=min (ZEU (l.filter (ZBm x how))) (max x.Left 0):=by
 have L:0<=ZEU (l.filter (ZBm x how)):=(ZIK λy D=>by have:=ZAq (E.ok y (Wk.1 D).1);omega).1;unfold ZGt;cases F:ZAd x.Side with
 | false=>
   have:l.filter (ZBm x how)=[]:=VQ.2 λy D=>by
    have:=(ZAq (E.ok y D)).2.2.2.2.2;unfold ZBm ZAf;rw[F];have:(y.Side==(if false=true then 3-x.Side else 0))=false:=by simp only[Wb,WR,Wy];omega
    rw[this];simp
   rw[Xe rfl,this];simp only[ZEU,YB,VO];omega
 | true=>
   have w:=ZDX.1 F;rw[Xd (by simp)];have H:l.filter (ZBm x how)=((l.filter λy=>y.Side==ZAf x.Side).filter (ZBc how x)).filter λy=>y.Owner != x.Owner:=by rw[List.filter_filter,List.filter_filter];congr 1;funext y;unfold ZBm;cases (y.Side==ZAf x.Side)<;>cases ZBc how x y<;>simp
   have I:ZEU (l.filter (ZBm x how))=ZEU ((ZAl l x how).filter λy=>y.Owner != x.Owner):=by rw[H];unfold ZAl;rw[<-ZMJ (λa b=>ZPr w a b) (ZHs l _)];exact ZLH ((((ZCq _).symm).filter _).filter _)
   have K:(((ZAl l x how).filter λy=>y.Owner != x.Owner).map λx=>x.Left).sum=ZEU (l.filter (ZBm x how)):=by rw[I];rfl
   rw[K];omega
theorem ZTY(H:c.sub h)(w:ZGB p xs c)(K:ZBE xs)(hq:Q (ZGt xs x how) h):cx 345 [vp p,ZF.enc x,vi how] ci h Q:=by
 refine c345 (d:=x) ?_;have hl:=K.len;have L:∀ i,0<=ZEU ((xs.take i).filter (ZBm x how))/\ZEU ((xs.take i).filter (ZBm x how))<=64000000:=λi=>by
  have I:=ZIK (l:=(xs.take i).filter (ZBm x how)) λy hy=>by have:=ZAq (K.ok y (WN (Wk.1 hy).1));omega
  have Z:((xs.take i).filter (ZBm x how)).length<=xs.length:=XG (Wj _ _) (by rw[Xk];omega);omega
 refine Zc (λz h'=>h'=h/\∃ i:Nat,z.2=(i:Int)/\i<=xs.length/\z.1=ZEU ((xs.take i).filter (ZBm x how))) (λz=>xs.length-z.2.toNat) ⟨rfl,0,rfl,Xh _,rfl⟩ ?_;rintro J ⟨n,zi⟩ I again ⟨rfl,i,hzi,hi,hn⟩
 dsimp only at hzi hn;subst hzi hn;refine ZEC w H λsl d hd wd=>?_;have X:=wd.1;refine ZG (λV=>?_) λM=>?_
 .have O:i<xs.length:=by dsimp only at V;omega
  have a0:xs[i]?=some xs[i]:=Xa O;have D:ZEU ((xs.take (i+1)).filter (ZBm x how))=ZEU ((xs.take i).filter (ZBm x how))+if ZBm x how xs[i]=true then xs[i].Left else 0:=by rw[XH,a0,WE];simp only[YR,Wh,Vl,ZEU,Wo,YW];split<;>simp
  have ab:=L (i+1);generalize xs[i]=y at a0 D;refine ZI (λY h'=>h'=I/\Y=ZEU ((xs.take (i+1)).filter (ZBm x how))) ?_ λJ2 E=>?_
  .rintro Y Z ⟨rfl,rfl⟩;rw[Z1 (by omega)];exact again _ _ ⟨rfl,i+1,rfl,by omega,rfl⟩ (by dsimp only;omega)
  refine ZI (λt h'=>h'=I/\t=ZBm x how y) ?_ λJ3 F=>?_
  .rintro t h3 ⟨rfl,rfl⟩;refine ZD (λe=>?_) λe=>E _ _ ⟨rfl,by rw[D,Xd (by rw[e];simp)];simp⟩;rw[Xe e]at D;refine ZDR w H rfl rfl a0 (cf:=ci) (k:=5) (y:=y.Left) rfl ?_;rw[<-D,w64 (by omega) (by omega)];exact E _ _ ⟨rfl,rfl⟩
  .refine ZG9 w H rfl rfl a0 (ZLn (x:=x) (ZD (λe=>?_) λe=>F _ _ ⟨rfl,by unfold ZBm;rw[e,WU]⟩));refine ZDR w H rfl rfl a0 (cf:=ci) (k:=2) (y:=y.Owner) rfl ?_;exact F _ _ ⟨rfl,by unfold ZBm;rw[e,Wq]⟩
 .have:i=xs.length:=by dsimp only at M;omega
  subst this;rw[Xo,ZHg,ZYD];rwa[ZVM K]at hq
theorem ZR9(D:ZBE xs):(xs.any λx=>ZAd x.Side&&φ x)=xs.any φ:=by
 rw[XA,WC,WC];constructor
 .rintro ⟨x,w,e⟩;exact⟨x,w,(Xf _ _▸e).2⟩
 .rintro ⟨x,w,e⟩;exact⟨x,w,by rw[e,Bool.and_true];exact ZDX.2 (ZAq (D.ok x w)).2.2.2.2.2⟩
theorem ZTW(o:On h l)(hc:c∈l)(w:ZGB p xs c)(hb:ZBE xs)(Z:∀ h',On h' l->Q (ZBw xs x how) h'):cx 301 [vp p,ZF.enc x,vi how] ci h Q:=by
 refine c301 (d:=x) ?_;have hl:=hb.len;unfold ZBw at Z;have hcs:c.sub h:=o.mem hc;refine ZI (λy h'=>h'=h/\y=if how=4 then {x with Price:=1} else x) ?_ λJ E=>ZD (λe=>E _ _ ⟨rfl,by rw[Xe (by simpa using e)]⟩) λe=>E _ _ ⟨rfl,by rw[Xd (by simpa using e)]⟩;rintro y h1 ⟨rfl,hy⟩;refine ZI (λt h'=>h'=h1/\t=!ZCf xs x how) ?_ λJ E=>?_
 ·rintro t h2 ⟨rfl,rfl⟩;refine ZD (λe=>?_) λe=>?_
  .have:=Z h2 o;rwa[Xe (by simpa using e)]at this
  have e:ZCf xs x how=true:=by simpa using e
  refine ZKx (x:=x) o hc w hb λh3 o3=>?_;have X:c.sub h3:=o3.mem hc;refine ZI (λt h'=>h'=h3/\t=decide (ZDD how=true/\64<=xs.length)) ?_ λJ3 H=>?_
  ·rintro t h4 ⟨rfl,rfl⟩;refine ZG (λM=>?_) λM=>?_
   .have:=Z h4 o3;rwa[Xd (by rw[e];simp),Xe M]at this
   refine ZI (λt h'=>h'=h4/\t=decide (how=3/\ZAl xs x how≠[])) ?_ λJ4 O=>?_
   .rintro t h5 ⟨rfl,rfl⟩;refine ZG (λI=>?_) λI=>?_
    .have:=Z h5 o3;rwa[Xd (by rw[e];simp),Xd M,Xe I]at this
    have L:=Z h5 o3;rw[Xd (by rw[e];simp),Xd M,Xd I]at L;refine ZI (λt h'=>h'=h5/\t=decide (how=2/\ZGt xs x how<x.Left)) ?_ λJ5 V=>?_
    .rintro t h6 ⟨rfl,rfl⟩;refine ZG (λD=>?_) λD=>?_
     .rwa [Xe D]at L
     .rwa [Xd D]at L
    .refine ZD (λD=>?_) λD=>V _ _ ⟨rfl,(Xj λh=>by simp[h.1]at D).symm⟩;have D:how=2:=by simpa using D
     exact ZTY (x:=x) X w hb (V _ _ ⟨rfl,XE.2 (by simp[D])⟩)
   .refine ZD (λD=>O _ _ ⟨rfl,?_⟩) λD=>O _ _ ⟨rfl,(Xj λh=>by simp[h.1]at D).symm⟩;have D:how=3:=by simpa using D
    unfold ZOx;cases hm:ZAl xs x how with
    | nil=>simp
    | cons m t=>simp[D]
  .have ab:∀ {K:Sl->Prop},(∀ s:Sl,s.len=xs.length->K s)->ZM p λa=>ZC cSl (a.add 0) h3 K:=λhK=>ZEC w X λsl d _ wd=>hK sl wd.1;have F:∀ t,ZDD how=t->decide (ZDD how=true/\64<=xs.length)=(t&&decide (64<=xs.length)):=λt ht=>by rw[ht];cases t<;>simp
   unfold ZDD at H F;refine ZD (λD=>ab λs hs=>H _ _ ⟨rfl,?_⟩) λD=>ZD (λe5=>ab λs hs=>H _ _ ⟨rfl,?_⟩) λe5=>H _ _ ⟨rfl,?_⟩
   .rw [F _ rfl,D,WI,Wq,XE,hs];omega
   .rw [F _ rfl,e5,Vb,Wq,XE,hs];omega
   .rw [F _ rfl,D,e5];rfl
 ·unfold ZCf at E;rw[ZR9 hb,<-hy]at E;refine ZG (λe1=>E _ _ ⟨rfl,by rw[Xe (.inl e1)];rfl⟩) λe1=>ZG (λM=>E _ _ ⟨rfl,by rw[Xe (.inr (by omega))];rfl⟩) λM=>?_;rw[Xd (by omega)]at E;have fin:¬(how=4/\x.Price≠0)->cx 21 [ZF.enc y] cB h1 λt5 h8=>ZB (!t5) (J true h8) (cx 344 [vp p,vi x.ID,vi x.Seq] cB h8 λt6 h9=>J t6 h9):=λY=>by
   rw[Xd Y]at E;refine ZUO (ZD (λe=>?_) λe=>ZSr hcs w (by omega) (E _ _ ⟨rfl,?_⟩))
   .have e:Zn y=false:=by simpa using e
    refine E _ _ ⟨rfl,?_⟩;rw[e];split<;>rfl
   .have e:Zn y=true:=by simpa using e
    rw[e];split
    .rename_i h;rw[h];rfl
    .rename_i h;simpa using h
  refine ZD (λI=>ZD (λD=>E _ _ ⟨rfl,by rw[Xe ⟨by simpa using I,by simpa using D⟩];rfl⟩) λD=>fin λY=>?_) λI=>fin λY=>?_
  .exact Y.2 (by simpa using D)
  .rw [Y.1]at I;cases I
theorem ZW5(o:On h (c::l))(w:ZGB p xs c)(hb:ZBE xs){Q:Sl×Sl×Int×Int->Hp->Prop}(hq:∀ s1 d1 s2 d2 c' h',On h' (c'::d1::d2::l)->ZGB p (doV xs x how).1 c'->Own ZCX d1 s1 (doV xs x how).2.1->Own ZEz d2 s2 (doV xs x how).2.2.1->(doV xs x how).2.1.length<=65->(doV xs x how).2.2.1.length<=65->Q (s1,s2,(doV xs x how).2.2.2.1,(doV xs x how).2.2.2.2) h'):
 cx 236 [vp p,ZF.enc x,vi how] (ZV [cSl,cSl,ci,ci]) h Q:=by
 refine c236 (d:=x) ?_;have hl:=hb.len;refine ZTW (x:=x) o (by simp) w hb λh1 o1=>?_;unfold doV at hq;refine ZD (λe=>?_) λe=>?_
 .rw [Xe (by simpa using e)]at hq;exact hq ⟨none,0,0⟩ Hp.emp ⟨none,0,0⟩ Hp.emp c h1 (o1.tail.emp.emp.perm (WO _) |> λ_=>(o1.emp.swap.perm (WO _)).emp.perm (by exact(Xt _ _ _))) w (Own.nil _) (Own.nil _) (Xh _) (Xh _)
 have e:ZBw xs x how=0:=by simpa using e
 rw[Xd (by simp[e])]at hq;dsimp only at hq;have hxl:=ZGb e;let I:ZE×Sl×Sl->Hp->ZCL->Prop:=λz h' D=>∃ M d1 d2,z.1=D.o/\On h' (M::d1::d2::l)/\ZGB p D.l M/\Own ZCX d1 z.2.1 D.fills/\Own ZEz d2 z.2.2 D.gone/\ZBE D.l/\0<=D.o.Left/\D.o.Left<=1000000/\D.fills.length+D.gone.length+D.l.length+(if 0<D.o.Left then 1 else 0)<=65;refine ZI (λz h'=>I z h' (ZAe xs x how)) ?_ λJ hJ=>?_
 .rintro ⟨y,s1,s2⟩ h2 ⟨M,d1,d2,hy,o2,w2,wf,wg,hb2,hl0,hl1,hsz⟩;dsimp only at hy wf wg;subst hy;have hbl:=hb2.len;refine ZI (λ_ h'=>∃ M,On h' (M::d1::d2::l)/\ZGB p (if ZDD how=true/\0<(ZAe xs x how).o.Left then (ZMZ (ZAe xs x how).l (ZAe xs x how).o).1 else (ZAe xs x how).l) M) ?_ λJ1 ab=>?_
  .rintro _ h3 ⟨cb3,o3,w3⟩;exact hq s1 d1 s2 d2 cb3 h3 o3 w3 wf wg (by omega) (by omega)
  refine ZI (λt h'=>h'=h2/\t=decide (ZDD how=true/\0<(ZAe xs x how).o.Left)) ?_ λJ2 O=>?_
  .rintro t h3 ⟨rfl,rfl⟩;refine ZG (λK=>?_) λK=>ab _ _ ⟨M,o2,by rw[Xd K];exact w2⟩;rw[Xe K]at ab;exact ZVk (x:=(ZAe xs x how).o) o2 w2 (by omega) λr c4 h4 o4 w4=>ab _ _ ⟨c4,o4,w4⟩
  .unfold ZDD at O;refine ZG (λK=>ZD (λZ=>O _ _ ⟨rfl,(XB ⟨by rw[Z,WI],K⟩).symm⟩) λZ=>O _ _ ⟨rfl,?_⟩) λK=>O _ _ ⟨rfl,(Xj λh=>K h.2).symm⟩;rw[Z,Yk];cases h3:(how==3)
   .simp
   .exact (XB ⟨rfl,K⟩).symm
 ·refine Zc (λz h'=>∃ D,ZFr how D=ZAe xs x how/\I z h' D) (λz=>100-(z.2.1.len+z.2.2.len))
   ⟨⟨xs,x,[],[]⟩,rfl,c,Hp.emp,Hp.emp,rfl,(o1.emp.swap).emp.swap,w,Own.nil _,Own.nil _,hb,by dsimp only;omega,hxl.2,by dsimp only[List.length_nil];rw[Xe (by omega)];omega⟩ ?_
  rintro J4 ⟨y,s1,s2⟩ h2 again ⟨D,hcr,M,d1,d2,hy,o2,w2,wf,wg,hb2,hl0,hl1,hsz⟩
  dsimp only at hy wf wg;subst hy;dsimp only;have hfl:=wf.1;have hgl:=wg.1;have hbl:=hb2.len;have stop:D.o.Left=0\/ZAl D.l D.o how=[]->∀ h',On h' (M::d1::d2::l)->J (D.o,s1,s2) h':=λhs h' o'=>by rw[ZIN hs]at hcr;subst hcr;exact hJ _ _ ⟨M,d1,d2,rfl,o',w2,wf,wg,hb2,hl0,hl1,hsz⟩
  refine ZG (λY=>?_) λhneg=>stop (.inl (by omega)) h2 o2;rw[Xe Y]at hsz;refine ZI (λz h'=>∃ cr',ZFr how cr'=ZAe xs x how/\I z h' cr'/\s1.len+s2.len<z.2.1.len+z.2.2.len) ?_ λJ5 E=>?_
  .rintro ⟨y5,s5,s6⟩ h5 ⟨cr',hc5,⟨cb5,d5,d6,k1,k2,k3,k4,k5,k6,k7,k8,k9⟩,hlt⟩;refine again _ _ ⟨cr',hc5,cb5,d5,d6,k1,k2,k3,k4,k5,k6,k7,k8,k9⟩ ?_;have a1:=k4.1;have a2:=k5.1;dsimp only at a1 a2 hlt⊢;omega
  refine ZKx (x:=D.o) o2 (by simp) w2 hb2 λh3 o3=>?_;unfold ZOx;cases hm:ZAl D.l D.o how with
  | nil=>exact Zf rfl (stop (.inr hm) h3 o3)
  | cons m t=>
    refine ZU rfl ?_;have ZFh:=ZMy hb2.ids hb2.seqs hm;rw[hcr]at ZFh;have X:m∈D.l:=ZCE (x:=D.o) (how:=how) (by rw[hm];simp);have hmr:=ZAq (hb2.ok m X);have F:=hb2.meet m;have hdl:=(ZF0 hb2.ids X).length_eq;rw[XI]at hdl;have H:=ZEj (c:=D) (x:=m) ⟨hl0,hl1⟩ (by omega);have E:=λz h' (hz:I z h' (Zo D m)/\s1.len+s2.len<z.2.1.len+z.2.2.len)=>E z h' ⟨Zo D m,ZFh,hz⟩;unfold Zo at E F H;rw[Xd (by omega)]at E F H;dsimp only;refine ZD (λK=>?_) λK=>?_
    .rw [Xe (by simpa using K)]at E F;refine ZEN o3 w2 (by omega) λ_ L h6 o6 w6=>ZH o6 λk7 h7 o7=>?_;refine ZBW (x:=(⟨m.ID,m.Owner,m.Left⟩:ZQv)) (o7.pick [0,3,1,2] 4) wg rfl (by decide) (by decide) (by omega) λd8 q n r h8 o8 w8=>?_;have hn:n=D.gone.length+1:=by have:=w8.1;simpa using this
     refine E _ _ ⟨⟨L,d1,d8,rfl,o8.pick [1,2,0] 3,w6,wf,w8,F,hl0,hl1,?_⟩,by dsimp only;omega⟩;dsimp only;rw[Xg,Xv,Xe Y];omega
    ·rw[Xd (by simpa using K)]at E F H;dsimp only at E F H;have emin:ZGd m.Left D.o.Left=min D.o.Left m.Left:=by rw[ZHg];omega
     rw[emin,w64 (by omega) (by omega),w64 (by omega) (by omega)];refine ZI (λ_ h'=>∃ L,On h' (L::d1::d2::l)/\ZGB p (if min D.o.Left m.Left=m.Left then ZAE D.l m.ID else (ZC6 D.l m.ID (m.Left-min D.o.Left m.Left)).1) L) ?_ λJ6 V=>?_
     .rintro _ h6 ⟨L,o6,w6⟩;refine ZH o6 λk7 h7 o7=>?_;refine ZBW (x:=ZE4 D.o m (min D.o.Left m.Left)) (o7.pick [0,2,1,3] 4) wf rfl (by decide) (by decide) (by omega) λd8 q n r h8 o8 w8=>?_;have hn:n=D.fills.length+1:=by have:=w8.1;simpa using this
      refine E _ _ ⟨⟨L,d8,d2,rfl,o8.pick [1,0,2] 3,w6,w8,wg,F,H.1,H.2,?_⟩,by dsimp only;omega⟩;have ecl:(ZA2 D.o (D.o.Left-min D.o.Left m.Left)).Left=D.o.Left-min D.o.Left m.Left:=rfl;dsimp only;rw[Xg,Xv,ecl];by_cases e5:min D.o.Left m.Left=m.Left
      .rw [Xe e5];have:(if 0<D.o.Left-min D.o.Left m.Left then 1 else 0)<=1:=by split<;>omega
       omega
      .rw [Xd e5,ZME,Xd (by omega)];omega
     .refine ZD (λZ=>?_) λZ=>?_
      .rw [Xe (by simpa using Z)]at V;exact ZEN o3 w2 (by omega) λ_ L h6 o6 w6=>V _ _ ⟨L,o6,w6⟩
      .rw [Xd (by simpa using Z)]at V;exact ZLw o3 w2 (by omega) λ_ L h6 o6 w6=>V _ _ ⟨L,o6,w6⟩
theorem ZYf(H:c.sub h)(w:ZGB p xs c)(O:ZBE xs)(hq:Q (ZEU (xs.filter λx=>x.Side==sd)) h):cx 46 [vp p,vi sd] ci h Q:=by
 refine c46 ?_;have hl:=O.len;have F:∀ i,0<=ZEU ((xs.take i).filter λx=>x.Side==sd)/\ZEU ((xs.take i).filter λx=>x.Side==sd)<=64000000:=λi=>by
  have M:=ZIK (l:=(xs.take i).filter λx=>x.Side==sd) λy hy=>by have:=ZAq (O.ok y (WN (Wk.1 hy).1));omega
  have Y:((xs.take i).filter λx=>x.Side==sd).length<=xs.length:=XG (Wj _ _) (by rw[Xk];omega);omega
 refine Zc (λz h'=>h'=h/\∃ i:Nat,z.2=(i:Int)/\i<=xs.length/\z.1=ZEU ((xs.take i).filter λx=>x.Side==sd)) (λz=>xs.length-z.2.toNat) ⟨rfl,0,rfl,Xh _,rfl⟩ ?_;rintro J ⟨n,zi⟩ M again ⟨rfl,i,hzi,hi,hn⟩
 dsimp only at hzi hn;subst hzi hn;refine ZEC w H λsl d hd wd=>?_;have V:=wd.1;refine ZG (λL=>?_) λI=>?_
 .have K:i<xs.length:=by dsimp only at L;omega
  have a0:xs[i]?=some xs[i]:=Xa K;have D:ZEU ((xs.take (i+1)).filter λx=>x.Side==sd)=ZEU ((xs.take i).filter λx=>x.Side==sd)+if (xs[i].Side==sd)=true then xs[i].Left else 0:=by rw[XH,a0,WE];simp only[YR,Wh,Vl,ZEU,Wo,YW];split<;>simp
  have Z:=F (i+1);generalize xs[i]=y at a0 D;refine ZI (λX h'=>h'=M/\X=ZEU ((xs.take (i+1)).filter λx=>x.Side==sd)) ?_ λJ2 E=>?_
  .rintro X Y ⟨rfl,rfl⟩;rw[Z1 (by omega)];exact again _ _ ⟨rfl,i+1,rfl,by omega,rfl⟩ (by dsimp only;omega)
  refine ZDR w H rfl rfl a0 (cf:=ci) (k:=3) (y:=y.Side) rfl (ZD (λe=>?_) λe=>E _ _ ⟨rfl,by rw[D,Xd (by rw[e];simp)];simp⟩);rw[Xe e]at D;refine ZDR w H rfl rfl a0 (cf:=ci) (k:=5) (y:=y.Left) rfl ?_;rw[<-D,w64 (by omega) (by omega)];exact E _ _ ⟨rfl,rfl⟩
 .have:i=xs.length:=by dsimp only at I;omega
  subst this;rwa[Xo]
theorem ZTm:∀ (ys:List ZE) (st:Int×Int),st.1=0->(∀ x∈ys,0<=x.Left)->(ys.foldl ZD8 st).2=st.2
 | [],_,_,_=>rfl
 | x::ys,st,h,hy=>by
   have D:=hy x (by simp);have e:min st.1 x.Left=0:=by omega
   have w:ZD8 st x=(0,st.2):=by unfold ZD8;rw[e,h,Int.mul_zero,Int.add_zero];rfl
   rw[Xy,w];exact ZTm ys _ rfl λy h'=>hy y (Xq _ h')
theorem ZK2(o:On h l)(hc:c∈l)(w:ZGB p xs c)(M:ZBE xs){Q:ZBL×Bool->Hp->Prop}(X:∀ h',On h' l->Q (⟨0,(ZDe xs sd qty).1⟩,(ZDe xs sd qty).2) h'):cx 13 [vp p,vi sd,vi qty] (ZV [Zm,cB]) h Q:=by
 refine c13 ?_;have hl:=M.len;have hsum:=ZIK (l:=xs.filter λx=>x.Side==sd) λy hy=>by have:=ZAq (M.ok y (Wk.1 hy).1);omega
 have hfl:(xs.filter λx=>x.Side==sd).length<=xs.length:=Wj _ _;unfold ZDe at X;refine ZI (λt h'=>h'=h/\t=decide (qty<1\/ZEU (xs.filter λx=>x.Side==sd)<qty)) ?_ λJ hJ=>?_
 ·rintro t h1 ⟨rfl,rfl⟩;refine ZG (λe=>?_) λe=>?_
  .rw [Xe e]at X;exact X h1 o
  rw[Xd e]at X;refine ZFY o hc w M λs d h2 o2 H=>?_;have hlen:=H.1;have ac:1<=qty/\qty<=64000000:=by omega
  have hlv:=ZBt xs sd;have V:∀ x∈ZAa xs sd,1<=x.Price/\x.Price<=1000000/\1<=x.Left/\x.Left<=1000000:=λx Y=>by have:=ZAq (M.ok x (ZAR.1 Y).1);omega
  generalize ZAa xs sd=ys at*;refine Zc (λz h'=>h'=h2/\∃ i:Nat,z.2.2=(i:Int)/\i<=ys.length/\0<=z.1/\z.1<=64000000/\∃ D:Int,z.2.1=⟨0,D⟩/\0<=D/\D<=(i:Int)*1000000000000/\(ys.take i).foldl ZD8 (qty,0)=(z.1,D)) (λz=>ys.length-z.2.2.toNat)
   ⟨rfl,0,rfl,Xh _,by dsimp only;omega,ac.2,0,rfl,by omega,by omega,rfl⟩ ?_
  rintro J1 ⟨q,cw,zi⟩ h3 again ⟨rfl,i,hzi,hi,hq0,hq1,D,hcw,hc0,hc1,hf⟩
  dsimp only at hzi hcw hq0 hq1 hf;subst hzi hcw;dsimp only;refine ZI (λt h'=>h'=h3/\t=decide (i<ys.length/\0<q)) ?_ λJ2 K=>?_
  ·rintro t h4 ⟨rfl,rfl⟩;refine ZG (λI=>?_) λI=>?_
   .have a0:ys[i]?=some ys[i]:=Xa I.1;have Y:=V _ (Xs I.1);have E:=ZAB ZD8 (qty,0) ys a0;generalize ys[i]=x at a0 Y E;rw[hf]at E;refine ZN H.row (Xb i) (by omega) λa L=>?_;rw[H.part_at L];refine Zd (cd:=ZF) (cf:=ci) H.row (o2.mem (by simp)) rfl L (i:=i) a0 (by rfl) (k:=5) (y:=x.Left) rfl ?_;refine ZN H.row (Xb i) (by omega) λa L=>?_;rw[H.part_at L];refine Zd (cd:=ZF) (cf:=ci) H.row (o2.mem (by simp)) rfl L (i:=i) a0 (by rfl) (k:=4) (y:=x.Price) rfl ?_;have em:=ZHg q x.Left;rw[em];have Z:0<=min q x.Left/\min q x.Left<=1000000:=by omega
    refine ZEW λr F=>?_;have F:=F (by omega) (by omega) Z.1 (by omega);subst F;have ab:0<=x.Price*min q x.Left/\x.Price*min q x.Left<=1000000000000:=by refine⟨YZ (by omega) Z.1,?_⟩;have:=VA (a:=x.Price) (b:=min q x.Left) (c:=1000000) (d:=1000000) (by omega) Z.2 Z.1 (by omega);omega
    have hi64:(i:Int)<=64:=by omega
    refine ZJi (a:=⟨0,D⟩) (b:=⟨0,x.Price*min q x.Left⟩) λr F=>?_;have F:=F _ _ hc0 ab.1 (by omega) rfl rfl;subst F;rw[Z1 (by omega),w64 (by omega) (by omega)];exact again _ _ ⟨rfl,i+1,rfl,by omega,by dsimp only;omega,by dsimp only;omega,D+x.Price*min q x.Left,rfl,by omega,by omega,E⟩ (by dsimp only;omega)
   .have hd:ys.foldl ZD8 (qty,0)=(ys.drop i).foldl ZD8 (q,D):=by rw[<-hf,<-WX,XO]
    have O:(ys.foldl ZD8 (qty,0)).2=D:=by
     rw[hd];by_cases hz:q=0
     .rw [ZTm _ _ hz λx Y=>by have:=V x (YJ Y);omega]
     .rw [YT (by omega)];rfl
    have:=X h4 o2.tail;rw[O]at this;exact this
  .refine ZG (λI=>K _ _ ⟨rfl,XE.2 (by omega)⟩) λI=>K _ _ ⟨rfl,(Xj (by omega)).symm⟩
 .refine ZG (λe=>hJ _ _ ⟨rfl,(XB (.inl e)).symm⟩) λe=>ZYf (o.mem hc) w M (hJ _ _ ⟨rfl,XE.2 (by omega)⟩)
theorem ZWx(o:On h l)(L:c∈l)(w:ZGB p xs c)(K:ZBE xs)(H:∀ n h',On h' l->Q n h'):cx 247 [vp p,vi sd,vi price,vi qty] ci h Q:=by
 refine c247 ?_;refine ZI (λt h'=>h'=h) ?_ λJ F=>?_
 .rintro t M rfl;refine ZD (λ_=>H _ _ o) λ_=>ZIT (ZK2 o L w K λE o2=>ZEW λr _=>ZRh (a:=⟨0,(ZDe xs (ZAf sd) qty).1⟩) (b:=r.1) λn _=>?_);refine ZI (λt h'=>h'=E) ?_ λI D=>?_
  .rintro t O rfl;exact ZD (λ_=>H _ _ o2) λ_=>H _ _ o2
  .have k:ZB (sd==2) (I (decide (n>0)) E) (I false E):=ZD (λ_=>D _ _ rfl) λ_=>D _ _ rfl;exact ZD (λ_=>ZD (λ_=>ZD (λ_=>D _ _ rfl) λ_=>k) λ_=>k) λ_=>D _ _ rfl
 .exact ZEt (ZD (λ_=>F _ _ rfl) λ_=>ZD (λ_=>F _ _ rfl) λ_=>F _ _ rfl)
def ZUZ(p:Option Addr)(ps:List Z8)(c:Hp):Prop:=
 ∃ (b:Nat) (s1 s2:Sl) (d1 d2:Hp) (us:List Int),p=sj b/\On c [ob b [sv s1,sv s2] 183,d1,d2]/\Own Zu d1 s1 ps/\Own ci d2 s2 us/\us.length=ps.length
theorem ZKS(I:c.sub h)(w:ZUZ p ps c)(E:Q (ZEc ps who) h):cx 232 [vp p,vi who] ci h Q:=by
 obtain⟨b,s1,s2,d1,d2,X,rfl,L,F,Y,V⟩:=w;refine c232 ?_;have D:=Hp.sub_trans (L.get (i:=0) rfl) I;have K:=F.1;unfold ZEc ZDK at E;refine ZI (λt h'=>h'=h/\t=decide (who<0\/(ps.length:Int)<=who)) ?_ λJ H=>?_
 ·rintro t h' ⟨rfl,rfl⟩;refine ZG (λe=>?_) λe=>?_
  .have M:(if who<0 then none else ps[who.toNat]?)=none:=by
    split
    .rfl
    .exact XP (by omega)
   rwa[M]at E
  .have a0:ps[who.toNat]?=some (ps[who.toNat]'(by omega)):=Xa (by omega);rw[Xd (by omega),a0]at E;refine ZK D (cd:=cSl) (x:=s1) rfl (ZN F.row (by omega) (by omega) λa O=>?_);exact Zd (cd:=Zu) (cf:=ci) F.row (Hp.sub_trans (L.mem (by simp)) I) rfl O (i:=who.toNat) a0 rfl (k:=0) (y:=(ps[who.toNat]'(by omega)).Role) rfl E
 .refine ZG (λe=>H _ _ ⟨rfl,(XB (.inl e)).symm⟩) λe=>ZK D (cd:=cSl) (x:=s1) rfl (H _ _ ⟨rfl,XE.2 (by omega)⟩)
theorem ZVq(X:c.sub h)(w:ZUZ p ps c){Q:Bool->Hp->Prop}(E:Q (ZVX (ZEc ps who) kind) h):cx 150 [vp p,vi who,vi kind] cB h Q:=by
 refine c150 ?_;generalize Y:ZEc ps who=r at E;have D:∀ {K:Int->Hp->Prop},K r h->cx 232 [vp p,vi who] ci h K:=λV=>ZKS X w (by rw[Y];exact V);unfold ZVX at E;refine ZI (λt h'=>h'=h/\t=decide (kind=6\/kind=7\/kind=8)) ?_ λJ F=>?_
 ·rintro t M ⟨rfl,rfl⟩;refine ZG (λe=>?_) λe=>?_
  .rw [Xe e]at E;exact D (ZD (λH=>by rwa[H,WI]at E) λH=>D (by rwa[H,Yk]at E))
  rw[Xd e]at E;refine ZI (λt h'=>h'=M/\t=decide (kind=9\/kind=12\/kind=13\/kind=16)) ?_ λJ F=>?_
  .rintro t O ⟨rfl,rfl⟩;refine ZG (λe=>?_) λe=>?_
   .rw [Xe e]at E;exact D E
   rw[Xd e]at E;refine ZI (λt h'=>h'=O/\t=decide (kind=10\/kind=11\/kind=14\/kind=15)) ?_ λJ F=>?_
   .rintro t Z ⟨rfl,rfl⟩;refine ZG (λe=>?_) λe=>?_
    .rw [Xe e]at E;exact D E
    rw[Xd e]at E;exact ZD (λe=>D (by rwa[e,Wq]at E)) λe=>by rwa[e,WU]at E
   .refine ZD (λe=>F _ _ ⟨rfl,?_⟩) λI=>ZD (λe=>F _ _ ⟨rfl,?_⟩) λH=>ZD (λe=>F _ _ ⟨rfl,?_⟩) λL=>F _ _ ⟨rfl,?_⟩;all_goals (rw[XA];simp only[WS,Xw,Wy]at *;omega)
  .refine ZD (λe=>F _ _ ⟨rfl,?_⟩) λI=>ZD (λe=>F _ _ ⟨rfl,?_⟩) λH=>ZD (λe=>F _ _ ⟨rfl,?_⟩) λL=>F _ _ ⟨rfl,?_⟩;all_goals (rw[XA];simp only[WS,Xw,Wy]at *;omega)
 .refine ZD (λe=>F _ _ ⟨rfl,?_⟩) λI=>ZD (λe=>F _ _ ⟨rfl,?_⟩) λH=>F _ _ ⟨rfl,?_⟩;all_goals (rw[XA];simp only[WS,Xw,Wy]at *;omega)
theorem ZT6(h:ZEc ps who=n)(D:n≠0):0<=who/\who<ps.length:=by
 unfold ZEc ZDK at h;by_cases w:who<0
 .rw [Xe w]at h;exact absurd h.symm D
 .rw [Xd w]at h;rcases WB who.toNat ps.length with h1|h1
  .omega
  .rw [XP h1]at h;exact absurd h.symm D
theorem ZS3(E:c.sub h)(w:ZUZ p ps c)(F:∀ n,Q n h):cx 240 [vp p,vi who,Value.int .u64 dealers] ci h Q:=by
 refine c240 ?_;refine ZKS E w (ZD (λ_=>F _) λe=>?_);have O:=ZT6 (n:=1) (by simpa using e) (by decide);obtain⟨b,s1,s2,d1,d2,V,rfl,L,D,X,M⟩:=w;have K:=D.1;have a0:ps[who.toNat]?=some (ps[who.toNat]'(by omega)):=Xa (by omega);refine ZI (λt h'=>h'=h) ?_ λJ H=>ZD (λ_=>H _ _ rfl) λ_=>?_
 .rintro t h' rfl;exact ZD (λ_=>F _) λ_=>F _
 refine ZK (Hp.sub_trans (L.get (i:=0) rfl) E) (cd:=cSl) (x:=s1) rfl (ZN D.row (by omega) (by omega) λa I=>?_);rw[D.part_at I];exact Zd (cd:=Zu) (cf:=cI .u64) D.row (Hp.sub_trans (L.mem (by simp)) E) rfl I (i:=who.toNat) a0 rfl (k:=1) (y:=(ps[who.toNat]'(by omega)).Asks) rfl (H _ _ rfl)
variable {Q:Int×Bool->Hp->Prop}
theorem ZJh{a:ZBL}(D:∀ r,Q r h):cx 308 [Zm.enc a] (ZV [ci,cB]) h Q:=by refine c308 (d:=a) ?_;refine ZI (λt h'=>h'=h) ?_ λJ w=>ZD (λ_=>w _ _ rfl) λ_=>w _ _ rfl;rintro t h' rfl;exact ZD (λ_=>D _) λ_=>D _
theorem ZNe(D:∀ r,Q r h):cx 309 [vi a,vi b] (ZV [ci,cB]) h Q:=by
 refine c309 ?_;refine ZI (λt h'=>h'=h) ?_ λJ w=>?_
 .rintro t h' rfl;exact ZD (λ_=>D _) λ_=>D _
 .have k:∀ {x y:Bool},ZB x (J y h) (J false h):=ZD (λ_=>w _ _ rfl) λ_=>w _ _ rfl;exact ZD (λ_=>ZD (λ_=>w _ _ rfl) λ_=>k) λ_=>k
theorem ZSM(D:∀ r,Q r h):cx 348 [vi a,vi b] (ZV [ci,cB]) h Q:=by
 refine c348 ?_;refine ZI (λt h'=>h'=h) ?_ λJ w=>?_
 .rintro t h' rfl;exact ZD (λ_=>D _) λ_=>D _
 .have k:∀ {x y:Bool},ZB x (J y h) (J false h):=ZD (λ_=>w _ _ rfl) λ_=>w _ _ rfl;exact ZD (λ_=>ZD (λ_=>w _ _ rfl) λ_=>k) λ_=>k
variable {Q:Int->Hp->Prop}
theorem ZOZ(K:c.sub h)(w:ZUZ p ps c)(D:∀ n,(n=0->0<=who/\who<ps.length)->Q n h):cx 248 [vp p,vi who,vi price,vi qty] ci h Q:=by refine c248 ?_;refine ZKS K w (ZD (λ_=>D _ λh=>by cases h) λe=>?_);have hw:=ZT6 (n:=2) (by simpa using e) (by decide);have D:∀ n,Q n h:=λn=>D n λ_=>hw;obtain⟨b,s1,s2,d1,d2,Y,rfl,O,L,V,hu⟩:=w;have H:=Hp.sub_trans (O.get (i:=0) rfl) K;have X:=L.1;have M:=V.1;have a0:ps[who.toNat]?=some (ps[who.toNat]'(by omega)):=Xa (by omega);have Z:Y[who.toNat]?=some (Y[who.toNat]'(by omega)):=Xa (by omega);refine ZI (λt h'=>h'=h) ?_ λJ F=>ZD (λ_=>F _ _ rfl) λ_=>F _ _ rfl;rintro t h' rfl;refine ZD (λ_=>D _) λ_=>ZEW λr _=>ZJh (a:=r.1) λr2=>?_;refine ZK H (cd:=cSl) (i:=1) (x:=s2) rfl (ZN V.row (by omega) (by omega) λa I=>ZQ V.row (Hp.sub_trans (O.mem (by simp)) K) rfl I (i:=who.toNat) Z rfl (ZNe λr3=>?_));refine ZI (λt E=>E=h') ?_ λJ F=>ZD (λ_=>F _ _ rfl) λ_=>F _ _ rfl;rintro t E rfl;refine ZD (λ_=>D _) λ_=>ZK H (cd:=cSl) (x:=s1) rfl (ZN L.row (by omega) (by omega) λa I=>?_);rw[L.part_at I];exact Zd (cd:=Zu) (cf:=ci) L.row (Hp.sub_trans (O.mem (by simp)) K) rfl I (i:=who.toNat) a0 rfl (k:=2) (y:=(ps[who.toNat]'(by omega)).Cap) rfl (ZD (λ_=>D _) λ_=>D _)
theorem ZYj(o:On h (c::l))(w:ZUZ p ps c)(K:∀ n c' h',On h' (c'::l)->ZUZ p ps c'->Q n h'):cx 253 [vp p,vi who,vi price,vi qty] ci h Q:=by refine c253 ?_;refine ZOZ (o.mem (by simp)) w λn V=>ZD (λe=>?_) λ_=>K _ c h o w;have hw:=V (by simpa using e);obtain⟨b,s1,s2,d1,d2,L,rfl,oc,w1,D,X⟩:=w;have E:=o.split oc;have H:=D.1;have M:L[who.toNat]?=some (L[who.toNat]'(by omega)):=Xa (by omega);dsimp only[ZM];refine ZL (cd:=cSl) (x:=s2) E 0 (i:=1) rfl rfl (ZL (cd:=cSl) (x:=s2) E 0 (i:=1) rfl rfl ?_);refine ZN D.row (by omega) (by omega) λa F=>ZQ D.row (E.mem (c:=d2) (by simp)) rfl F (i:=who.toNat) M rfl (ZN D.row (by omega) (by omega) λa F=>?_);refine ZA4 (E.pick [2,0,1] 3) rfl D F (i:=who.toNat) (by omega) rfl λI O Y w3=>?_;obtain⟨Z,o5⟩:=On.joined (cs:=[ob b [sv s1,sv s2] 183,d1,I]) (l:=l) (Y.pick [1,2,0] 3);exact K _ _ O Z ⟨b,s1,s2,d1,I,_,rfl,o5,w1,w3,by rw[Xp];exact X⟩
def ZMS(p:Option Addr)(nb n:Nat)(c:Hp):Prop:=∃ xs:List Ask,Zv Zx 128 p xs c/\xs.length<=n/\∀ a∈xs,0<=a.Bond/\a.Bond<nb
def ZLv(p:Option Addr)(n:Nat)(c:Hp):Prop:=∃ xs:List Za,Zv ZP 126 p xs c/\xs.length<=n
section
variable {p:Option Addr}{nb n:Nat}{c h:Hp}{l:List Hp}{id:Int}
theorem ZEY{xs:List Ask}(F:c.sub h)(w:Zv Zx 128 p xs c)(hl:xs.length<=1000000)(D:Q (-1) h)(E:∀ (i:Nat) (x:Ask),xs[i]?=some x->Q i h):cx 163 [vp p,vi id] ci h Q:=by
 refine c163 ?_;refine ZIV (key:=Ask.ID) (λ_=>rfl) w F rfl rfl (by omega) ?_;cases H:xs.findIdx? λo=>o.ID==id with
 | none=>exact D
 | some i=>
   obtain⟨x,I,_⟩:=ZAY H;exact E i x I
theorem ZVV(D:c.sub h)(w:ZMS p nb n c)(K:n<=1000000){Q:Ask×Bool->Hp->Prop}(E:∀ (a:Ask) (H:Bool),(H=true\/a.State≠0->0<=a.Bond/\a.Bond<(nb:Int))->Q (a,H) h):cx 93 [vp p,vi id] (ZV [Zx,cB]) h Q:=by
 obtain⟨xs,w,hl,I⟩:=w;refine c93 ?_;refine ZEY D w (by omega) (Zf rfl (E _ _ ?_)) λi x F=>ZU (Xj (by show ¬((i:Nat):Int)<0;omega)) (ZG9 w D rfl rfl F (E _ _ λ_=>I x (Xn F)));rintro(h|h)
 .cases h
 .exact absurd rfl h
theorem Zbt{xs:List Ask}{x y:Ask}(D:∀ a∈xs,0<=a.Bond/\a.Bond<nb)(F:xs[i]?=some x)(E:y.Bond=x.Bond):∀ a∈xs.set i y,0<=a.Bond/\a.Bond<nb:=λa w=>by
 rcases XK w with w|w
 .exact D a w
 .rw [w,E];exact D x (Xn F)
theorem ZJD{xs:List α}{x y:α}(w:xs[i]?=some x):(xs.set i y)[i]?=some y:=XM (Xi.1 w).1
theorem ZJ7{xs:List Ask}{b:Nat}{sl:Sl}(o:On h (ob b [sv sl] 128::d::l))(w:Own Zx d sl xs){x:Ask}(F:xs[i]?=some x){y:Int}(x':Ask)(I:ZE9 (Zx.enc x).cells.toList k [vi y]=(Zx.enc x').cells.toList)(M:k<10){K:Hp->Prop}(H:∀ d' h',On h' (ob b [sv sl] 128::d'::l)->Own Zx d' sl (xs.set i x')->K h'):Zb sl.a sl.len (i:Int) λa=>ZS ci ⟨(a.add ((i:Int).toNat*10)).block,(a.add ((i:Int).toNat*10)).off+k,none⟩ y h K:=by
 have L:=(Xi.1 F).1;have E:=w.1;refine ZN w.row (Xb i) (by omega) λa D=>?_;rw[w.part_at D];exact Zz (cd:=Zx) (cf:=ci) o.swap rfl rfl w D F rfl (k:=k) (x':=x') I (by show k+1<=10;omega) λd' h' o' w'=>H d' h' o'.swap w'
theorem ZWY{st:Int}(o:On h (c::l))(w:ZMS p nb n c)(hn:n<=1000000)(Z:∀ r c' h',On h' (c'::l)->ZMS p nb n c'->Q r h'):cx 164 [vp p,vi id,vi st] ci h Q:=by
 have w0:=w;obtain⟨xs,w,hl,hb⟩:=w;refine c164 ?_;have Y:c.sub h:=o.mem (by simp);have E:∀ r,Q r h:=λr=>Z r c h o w0;refine ZEY Y w (by omega) (Zf rfl (E _)) λi x L=>ZU (Xj (by show ¬((i:Nat):Int)<0;omega)) ?_;refine ZI (λt h'=>h'=h) ?_ λJ D=>ZD (λ_=>D _ _ rfl) λ_=>D _ _ rfl;rintro t h' rfl;refine ZD (λ_=>E _) λ_=>?_;refine ZI (λt I=>I=h') ?_ λJ D=>?_
 .rintro t I rfl;refine ZD (λ_=>E _) λ_=>?_;obtain⟨b,sl,d,rfl,oc,wd⟩:=w;have O:=o.split oc;dsimp only[ZM];refine ZL (x:=sl) O 0 rfl rfl (ZL (x:=sl) O 0 rfl rfl ?_);refine ZJ7 O wd L {x with State:=st} rfl (by decide) λd1 h1 o1 w1=>?_;refine ZJ7 o1 w1 (ZJD L) {x with State:=st,Until:=0} rfl (by decide) λd2 h2 o2 X=>?_;rw[WW]at X;have fin:∀ (y:Ask) H F,y.Bond=x.Bond->On F (ob b [sv sl] 128::H::l)->Own Zx H sl (xs.set i y)->Q 0 F:=λy H F he V M=>by obtain⟨c5,o5,w5⟩:=Zv.close V M;exact Z _ c5 F o5 ⟨_,w5,by rw[Xp];exact hl,Zbt hb L he⟩
  refine ZD (λ_=>ZL (x:=sl) o2 0 rfl rfl (ZJ7 o2 X (ZJD L) {x with State:=st,Until:=0,Hit:=0} rfl (by decide) λH F V M=>?_)) λ_=>fin {x with State:=st,Until:=0} d2 h2 rfl o2 X;rw[WW]at M;exact fin {x with State:=st,Until:=0,Hit:=0} H F rfl V M
 .have st:∀ {K:Int->Prop},K x.State->_:=λhK=>ZDR w Y (z:=10) rfl rfl L (cf:=ci) (k:=8) (y:=x.State) rfl hK;exact st (ZD (λ_=>D _ _ rfl) λ_=>st (ZD (λ_=>D _ _ rfl) λ_=>ZD (λ_=>st (D _ _ rfl)) λ_=>D _ _ rfl))
theorem ZSe(o:On h (c::l))(w:ZMS p nb n c)(hn:n<=1000000)(I:∀ r c' h',On h' (c'::l)->ZMS p nb n c'->Q r h'):cx 166 [vp p,vi id] ci h Q:=by have w0:=w;obtain⟨xs,w,hl,V⟩:=w;refine c166 ?_;have H:c.sub h:=o.mem (by simp);have D:∀ r,Q r h:=λr=>I r c h o w0;refine ZEY H w (by omega) (Zf rfl (D _)) λi x E=>ZU (Xj (by show ¬((i:Nat):Int)<0;omega)) ?_;refine ZDR w H rfl rfl E (cf:=ci) (k:=8) (y:=x.State) rfl (ZD (λ_=>D _) λ_=>?_);obtain⟨b,sl,d,rfl,oc,wd⟩:=w;have F:=o.split oc;dsimp only[ZM];refine ZL (x:=sl) F 0 rfl rfl (ZL (x:=sl) F 0 rfl rfl (ZL (x:=sl) F 0 rfl rfl ?_));refine ZJ7 F wd E {x with State:=1} rfl (by decide) λd1 h1 X w1=>?_;refine ZJ7 X w1 (ZJD E) {x with State:=1,Hit:=0} rfl (by decide) λd2 h2 o2 K=>?_;rw[WW]at K;refine ZJ7 o2 K (ZJD E) {x with State:=1,Hit:=0,Until:=0} rfl (by decide) λd3 O Y L=>?_;rw[WW]at L;obtain⟨M,Z,w5⟩:=Zv.close Y L;exact I _ M O Z ⟨_,w5,by rw[Xp];exact hl,Zbt V E rfl⟩
theorem ZT8{u:Int}(o:On h (c::l))(w:ZMS p nb n c)(hn:n<=1000000)(K:∀ r c' h',On h' (c'::l)->ZMS p nb n c'->Q r h'):cx 249 [vp p,vi id,vi q,vi u] ci h Q:=by have w0:=w;obtain⟨xs,w,hl,X⟩:=w;refine c249 ?_;have I:c.sub h:=o.mem (by simp);have D:∀ r,Q r h:=λr=>K r c h o w0;refine ZEY I w (by omega) (Zf rfl (D _)) λi x E=>ZU (Xj (by show ¬((i:Nat):Int)<0;omega)) ?_;refine ZDR w I rfl rfl E (cf:=ci) (k:=8) (y:=x.State) rfl (ZD (λ_=>D _) λ_=>?_);refine ZI (λt h'=>h'=h) ?_ λJ H=>ZD (λ_=>H _ _ rfl) λ_=>H _ _ rfl;rintro t h' rfl;refine ZD (λ_=>D _) λ_=>?_;obtain⟨b,sl,d,rfl,oc,wd⟩:=w;have F:=o.split oc;dsimp only[ZM];refine ZL (x:=sl) F 0 rfl rfl (ZL (x:=sl) F 0 rfl rfl (ZL (x:=sl) F 0 rfl rfl ?_));refine ZJ7 F wd E {x with State:=2} rfl (by decide) λd1 h1 Y w1=>?_;refine ZJ7 Y w1 (ZJD E) {x with State:=2,Hit:=q} rfl (by decide) λd2 h2 o2 L=>?_;rw[WW]at L;refine ZJ7 o2 L (ZJD E) {x with State:=2,Hit:=q,Until:=u} rfl (by decide) λd3 V Z M=>?_;rw[WW]at M;obtain⟨O,o5,w5⟩:=Zv.close Z M;exact K _ O V o5 ⟨_,w5,by rw[Xp];exact hl,Zbt X E rfl⟩
theorem ZTv{xs:List Ask}(I:c.sub h)(w:Zv Zx 128 p xs c)(hl:xs.length<=1000000)(O:∀ r,Q r h):cx 305 [vp p] ci h Q:=by
 refine c305 ?_;refine Zc (λz h'=>h'=h/\∃ i:Nat,z.2=(i:Int)/\i<=xs.length) (λz=>xs.length-z.2.toNat) ⟨rfl,0,rfl,Xh _⟩ ?_;rintro J ⟨m,zi⟩ h1 again ⟨rfl,i,hzi,hi⟩
 dsimp only at hzi;subst hzi;refine ZEC w I λsl d hd V=>?_;have L:=V.1;refine ZG (λH=>?_) λ_=>O _;have F:i<xs.length:=by dsimp only at H;omega
 have a0:xs[i]?=some xs[i]:=Xa F;have st:∀ {K:Int->Prop},K xs[i].State->_:=λM=>ZDR w I (z:=10) rfl rfl a0 (cf:=ci) (k:=8) (y:=xs[i].State) rfl M;refine ZI (λ_ h'=>h'=h1) ?_ λX D=>ZI (λ_ h'=>h'=h1) ?_ λY E=>st (ZD (λ_=>E _ _ rfl) λ_=>st (E _ _ rfl))
 .rintro z2 Z rfl;rw[Z1 (by omega)];exact again _ _ ⟨rfl,i+1,rfl,by omega⟩ (by dsimp only;omega)
 .rintro t h3 rfl;exact ZD (λ_=>D _ _ rfl) λ_=>D _ _ rfl
theorem ZbU{cd:Cdc}{w:TypeId}{b:Nat}{sl:Sl}{xs:List cd.T}{z bytes:Nat}{x:cd.T}{vs:List Value}(hv:vs=(cd.enc x).cells.toList)(o:On h (ob b [sv sl] e::d::l))(wd:Own cd d sl xs)(hm:cd.mem=true)(hn:0<cd.n)(hz:z=cd.n)(hk:k<=xs.length)(hb:bytes<=1024)(hl:xs.length<=1000000){K:Hp->Prop}(hK:∀ c' h',On h' (c'::l)->Zv cd e (sj b) (xs.take k++([x]++xs.drop k)) c'->K h'):
 (ZM (sj b) λa1=>ZM (sj b) λF=>ZC cSl (a1.add 0) h λs1=>Z3 s1.len s1.cap none (some (k:Int)) λk1 k2=>ZC cSl (F.add 0) h λs2=>Z3 s2.len s2.cap (some (k:Int)) none λV k4=>
   ZJ (.cells [].toArray w) h λk5 h5=>ZR cd w bytes (sj k5) 0 0 (Zh s1.a k1 s1.cap z) (k2-k1) h5 λp1 k6 k7 Y=>(Y.rds (F.add 0) [Value.slice s2.a s2.len s2.cap]/\True)/\ZJ (.cells vs.toArray w) Y λk8 Z=>
    ZR cd w bytes p1 k6 k7 (sj k8) 1 Z λp2 k9 H I=>(I.rds (F.add 0) [Value.slice s2.a s2.len s2.cap]/\True)/\ZR cd w bytes p2 k9 H (Zh s2.a V s2.cap z) (k4-V) I λX D E L=>ZM (sj b) λa3=>ZS cSl (a3.add 0) ⟨X,D,E⟩ L K)/\
 (ZM (sj b) λa1=>ZM (sj b) λF=>ZC cSl (a1.add 0) h λs1=>Z3 s1.len s1.cap none (some (k:Int)) λk1 k2=>ZC cSl (F.add 0) h λs2=>Z3 s2.len s2.cap (some (k:Int)) none λV k4=>
   ZJ (.cells [].toArray w) h λk5 h5=>ZJ (.cells vs.toArray w) h5 λk8 Y=>ZR cd w bytes (sj k5) 0 0 (Zh s1.a k1 s1.cap z) (k2-k1) Y λp1 k6 k7 Z=>(Z.rds (F.add 0) [Value.slice s2.a s2.len s2.cap]/\True)/\
    ZR cd w bytes p1 k6 k7 (sj k8) 1 Z λp2 k9 H I=>(I.rds (F.add 0) [Value.slice s2.a s2.len s2.cap]/\True)/\ZR cd w bytes p2 k9 H (Zh s2.a V s2.cap z) (k4-V) I λX D E L=>ZM (sj b) λa3=>ZS cSl (a3.add 0) ⟨X,D,E⟩ L K):=by
 have O:=wd.1;have hcap:=wd.le_cap hn;dsimp only[ZM];have hX:∀ (c':Hp) (q:Option Addr) (m r:Nat) (h':Hp),On h' (c'::ob b [sv sl] e::d::l)->Own cd c' ⟨q,m,r⟩ (xs.take k++[x])->(h'.rds ((⟨b,0,none⟩:Addr).add 0) [Value.slice sl.a sl.len sl.cap]/\True)/\ZR cd w bytes q m r (Zh sl.a k sl.cap z) (sl.len-k) h' λX D E L=>ZS cSl ((⟨b,0,none⟩:Addr).add 0) ⟨X,D,E⟩ L K:=λc' q m r h' o' w'=>by refine⟨⟨Hp.sub_rds (o'.get (i:=1) rfl) (ZBI rfl),trivial⟩,?_⟩;rw[O];refine ZDo (s:=⟨q,m,r⟩) o' w' (o'.mem (c:=d) (by simp)) wd hm hn hz hk (Xc _) hb (by simp;omega) λc2 q2 n2 r2 h2 o2 w2=>?_;rw[Xu,XU (l:=xs.drop k) (by rw[XN];omega)]at w2;refine ZX (cd:=cSl) (i:=0) (x:=⟨q2,n2,r2⟩) (vs':=[sv ⟨q2,n2,r2⟩]) o2.swap rfl rfl (Xc 1) λh3 o3=>?_;obtain⟨c5,o5,w5⟩:=Zv.close (o3.pick [0,1] 3) w2;exact hK c5 h3 o5 w5
 have hR:∀ h',On h' (ob b [sv sl] e::d::l)->h'.rds ((⟨b,0,none⟩:Addr).add 0) [Value.slice sl.a sl.len sl.cap]/\True:=λh' o'=>⟨Hp.sub_rds (o'.get (i:=0) rfl) (ZBI rfl),trivial⟩
 have M:=ZXX (e:=w) (bytes:=bytes) hv o (g:=d) (by simp) wd hm hn hz hk hb (by omega) hR hX;refine⟨?_,?_⟩<;>
 .refine ZL (x:=sl) o 0 rfl rfl ⟨Xb _,by omega,ZL (x:=sl) o 0 rfl rfl ⟨Xb _,by omega,?_⟩⟩;first|exact M.1|exact M.2
theorem ZVh{x:Ask}(o:On h (c::l))(w:ZMS p nb n c)(hn:n<=999999)(hx:0<=x.Bond/\x.Bond<nb)(X:∀ r c' h',On h' (c'::l)->ZMS p nb (n+1) c'->Q r h'):cx 241 [vp p,Zx.enc x] ci h Q:=by
 obtain⟨xs,w,hl,M⟩:=w;refine c241 (d:=x) ?_;have L:c.sub h:=o.mem (by simp);have K:∀ r,Q r h:=λr=>X r c h o ⟨xs,w,by omega,M⟩;refine ZI (λ_ h'=>h'=h) ?_ λJ D=>?_
 ·rintro t Y rfl;refine ZD (λ_=>K _) λ_=>ZTv L w (by omega) λr=>ZD (λ_=>K _) λ_=>?_;refine Zc (λm h'=>h'=Y/\∃ i:Nat,m=(i:Int)/\i<=xs.length) (λm=>xs.length-m.toNat) ⟨rfl,0,rfl,Xh _⟩ ?_;rintro J1 m Z F ⟨rfl,i,rfl,hi⟩
  refine ZI (λt h'=>h'=Z/\(t=true->i<xs.length)) ?_ λJ2 H=>?_
  ·rintro t h3 ⟨rfl,ht⟩;refine ZD (λe=>?_) λ_=>?_
   .have:=ht e;rw[Z1 (by omega)];exact F _ _ ⟨rfl,i+1,rfl,by omega⟩ (by omega)
   ·obtain⟨b,sl,d,rfl,oc,O⟩:=w
    exact ZbU (x:=x) (bytes:=80) rfl (o.split oc) O rfl (by decide) rfl hi (by decide) (by omega) λc4 h4 o4 w4=>X _ c4 h4 o4 ⟨_,w4,by simp;omega,λa E=>by
         rcases Xx.1 E with E|E
         .exact M a (WN E)
         .rcases Xx.1 E with E|E
          .rw [Xl.1 E];exact hx
          .exact M a (YJ E)⟩
  .refine ZEC w L λsl d _ O=>?_;have V:=O.1;refine ZG (λhlt=>?_) λ_=>H _ _ ⟨rfl,λe=>by cases e⟩;have I:i<xs.length:=by omega
   exact ZUF w L rfl rfl (Xa I) (cf:=ci) (y:=xs[i].ID) rfl (H _ _ ⟨rfl,λ_=>I⟩)
 .refine ZD (λ_=>D _ _ rfl) λ_=>ZD (λ_=>D _ _ rfl) λ_=>ZD (λ_=>D _ _ rfl) λ_=>ZD (λ_=>D _ _ rfl) λ_=>ZEt (ZD (λ_=>D _ _ rfl) λ_=>?_);exact ZD (λ_=>D _ _ rfl) λ_=>ZD (λ_=>D _ _ rfl) λ_=>ZD (λ_=>D _ _ rfl) λ_=>ZD (λ_=>D _ _ rfl) λ_=>ZEY L w (by omega) (D _ _ rfl) λ_ _ _=>D _ _ rfl
end
section
variable {p:Option Addr}{nb n:Nat}{c h:Hp}{l:List Hp}{id:Int}
theorem ZIf{xs:List Za}(F:c.sub h)(w:Zv ZP 126 p xs c)(hl:xs.length<=1000000)(D:Q (-1) h)(E:∀ (i:Nat) (x:Za),xs[i]?=some x->Q i h):cx 167 [vp p,vi id] ci h Q:=by
 refine c167 ?_;refine ZIV (key:=Za.ID) (λ_=>rfl) w F rfl rfl (by omega) ?_;cases H:xs.findIdx? λo=>o.ID==id with
 | none=>exact D
 | some i=>
   obtain⟨x,I,_⟩:=ZAY H;exact E i x I
theorem ZOY(D:c.sub h)(w:ZLv p n c)(H:n<=1000000){Q:Za×Bool->Hp->Prop}(E:∀ r,Q r h):cx 245 [vp p,vi id] (ZV [ZP,cB]) h Q:=by obtain⟨xs,w,hl⟩:=w;refine c245 ?_;exact ZIf D w (by omega) (Zf rfl (E _)) λi x F=>ZU (Xj (by show ¬((i:Nat):Int)<0;omega)) (ZG9 w D rfl rfl F (E _))
theorem ZIa(o:On h (c::l))(w:ZLv p n c)(hn:n<=1000000){Q:Bool->Hp->Prop}(V:∀ r c' h',On h' (c'::l)->ZLv p n c'->Q r h'):cx 96 [vp p,vi id] cB h Q:=by
 have w0:=w;obtain⟨xs,w,hl⟩:=w;refine c96 ?_;have L:c.sub h:=o.mem (by simp);have H:∀ m:Int,(m<0\/∃ (i:Nat) (x:Za),m=i/\xs[i]?=some x)->ZT (λ(t1:Bool) h2=>ZB t1 (Q false h2) (ZM p λY=>ZC cSl (Y.add 0) h2 λs1=>Zb s1.a s1.len m λF=>ZS cB ⟨(F.add (m.toNat*6)).block,(F.add (m.toNat*6)).off+5,none⟩ false h2 λh3=>Q true h3))
  λJ=>ZB (decide (m<0)) (J true h) (ZM p λa3=>ZC cSl (a3.add 0) h λs2=>Zb s2.a s2.len m λa4=>ZC cB ⟨(a4.add (m.toNat*6)).block,(a4.add (m.toNat*6)).off+5,none⟩ h λt2=>J (!t2) h):=λm O=>by
  refine ZI (λt h'=>h'=h/\(t=false->¬m<0)) ?_ λJ I=>?_
  .rintro t h' ⟨rfl,ht⟩
   refine ZD (λ_=>V _ c h' o w0) λe=>?_
   obtain⟨i,x,rfl,D⟩:=O.resolve_left (ht e)
   have hi:=(Xi.1 D).1
   obtain⟨b,sl,d,rfl,oc,E⟩:=w
   have X:=o.split oc
   have M:=E.1
   dsimp only[ZM]
   refine ZL (x:=sl) X 0 rfl rfl (ZN E.row (Xb i) (by omega) λa K=>?_)
   rw[E.part_at K]
   refine Zz (cd:=ZP) (cf:=cB) X.swap rfl rfl E K D rfl (k:=5) (y:=false) (x':={x with Live:=false}) rfl (by decide) λd1 h1 o1 w1=>?_
   obtain⟨Z,o5,w5⟩:=Zv.close o1.swap w1
   exact V _ Z h1 o5 ⟨_,w5,by rw[Xp];exact hl⟩
  .refine ZG (λ_=>I _ _ ⟨rfl,λe=>by cases e⟩) λe=>?_
   obtain⟨i,x,rfl,D⟩:=O.resolve_left e
   exact ZDR w L rfl rfl D (cf:=cB) (k:=5) (y:=x.Live) rfl (I _ _ ⟨rfl,λ_=>e⟩)
 exact ZIf L w (by omega) (H _ (.inl (by decide))) λi x D=>H _ (.inr ⟨i,x,rfl,D⟩)
theorem ZRj{D:Int}(o:On h (c::l))(w:ZLv p n c)(F:n<=1000000)(H:∀ r c' h',On h' (c'::l)->ZLv p n c'->Q r h'):cx 246 [vp p,vi id,vi D] ci h Q:=by refine c246 ?_;have E:∀ r,Q r h:=λr=>H r c h o w;exact ZOY (o.mem (by simp)) w F λr=>ZD (λ_=>E _) λ_=>ZD (λ_=>E _) λ_=>ZD (λ_=>E _) λ_=>ZIa o w F λ_ c' h' o' w'=>H _ c' h' o' w'
theorem ZWv{x:Za}(o:On h (c::l))(w:ZLv p n c)(hn:n<=999999){Q:Int×Int->Hp->Prop}(Y:∀ r c' h',On h' (c'::l)->ZLv p (n+1) c'->Q r h'):cx 244 [vp p,ZP.enc x] (ZV [ci,ci]) h Q:=by
 have w0:=w;obtain⟨xs,w,hl⟩:=w;refine c244 (d:=x) ?_;have H:c.sub h:=o.mem (by simp);refine ZI (λ_ h'=>h'=h) ?_ λJ D=>?_
 .rintro t O rfl;refine ZD (λ_=>Y _ c O o ⟨xs,w,by omega⟩) λ_=>?_;refine Zc (λz h'=>h'=O/\∃ i:Nat,z.2=(i:Int)/\i<=xs.length) (λz=>xs.length-z.2.toNat) ⟨rfl,0,rfl,Xh _⟩ ?_;rintro J1 ⟨m,zi⟩ h2 again ⟨rfl,i,hzi,hi⟩
  dsimp only at hzi;subst hzi;refine ZEC w H λsl d _ M=>?_;have X:=M.1;refine ZG (λL=>?_) λ_=>?_
  .have I:i<xs.length:=by dsimp only at L;omega
   have a0:xs[i]?=some xs[i]:=Xa I;have rd:∀ {k:Nat} {y:Int} {K:Int->Prop},((ZP.enc xs[i]).cells.toList.drop k).take 1=[vi y]->K y->_:=λ{k y K} hy hK=>ZDR w H (z:=6) rfl rfl a0 (cf:=ci) (k:=k) (y:=y) hy hK;refine ZI (λ_ h'=>h'=h2) ?_ λJ2 F=>ZI (λ_ h'=>h'=h2) ?_ λJ3 E=>?_
   .rintro z2 V rfl;rw[Z1 (by omega)];exact again _ _ ⟨rfl,i+1,rfl,by omega⟩ (by dsimp only;omega)
   .rintro t V rfl;exact ZD (λ_=>ZUF w H rfl rfl a0 (cf:=ci) (y:=xs[i].ID) rfl (F _ _ rfl)) λ_=>F _ _ rfl
   .exact rd (y:=xs[i].Ask) rfl (ZD (λ_=>rd (y:=xs[i].Dealer) rfl (ZD (λ_=>ZDR w H rfl rfl a0 (cf:=cB) (k:=5) (y:=xs[i].Live) rfl (E _ _ rfl)) λ_=>E _ _ rfl)) λ_=>E _ _ rfl)
  .refine ZIa o w0 (by omega) λ_ c3 V o3 ⟨ys,w3,hl3⟩=>?_;obtain⟨b,sl,d,rfl,oc,M⟩:=w3;have Z:=o3.split oc;dsimp only[ZM];refine ZL (x:=sl) Z 0 rfl rfl (ZH Z λk5 h5 o5=>?_);refine ZBW (x:=x) (o5.pick [0,2,1] 3) M rfl (by decide) (by decide) (by omega) λc6 q m r h6 o6 w6=>?_;refine ZX (cd:=cSl) (i:=0) (x:=⟨q,m,r⟩) (vs':=[sv ⟨q,m,r⟩]) o6.swap rfl rfl (Xc 1) λh7 o7=>?_;obtain⟨c8,o8,w8⟩:=Zv.close o7 w6;exact Y _ c8 h7 o8 ⟨_,w8,by simp;omega⟩
 .exact ZD (λ_=>D _ _ rfl) λ_=>ZD (λ_=>D _ _ rfl) λ_=>ZD (λ_=>D _ _ rfl) λ_=>ZD (λ_=>D _ _ rfl) λ_=>ZD (λ_=>D _ _ rfl) λ_=>ZIf H w (by omega) (D _ _ rfl) λ_ _ _=>D _ _ rfl
theorem ZM5{x:Za}{s:Sl}{xs:List Za}(o:On h (d::l))(D:Own ZP d s xs)(hl:xs.length<=1000000){Q:Sl->Hp->Prop}(Z:∀ s' d' ys h',On h' (d'::l)->Own ZP d' s' ys->ys.length=xs.length+1->Q s' h'):cx 169 [Value.slice s.a s.len s.cap,ZP.enc x] cSl h Q:=by
 refine c169 (d:=x) ?_;have H:=D.1;have I:=D.le_cap (by decide);refine Zc (λm h'=>h'=h/\∃ i:Nat,m=(i:Int)/\i<=xs.length) (λm=>xs.length-m.toNat) ⟨rfl,0,rfl,Xh _⟩ ?_;rintro J m O w ⟨rfl,i,rfl,K⟩
 refine ZI (λt h'=>h'=O/\(t=true->i<xs.length)) ?_ λJ2 E=>?_
 .rintro t h2 ⟨rfl,ht⟩;refine ZD (λe=>?_) λ_=>⟨Xb _,by omega,⟨Xb _,by omega,?_⟩⟩
  .have:=ht e;rw[Z1 (by omega)];exact w _ _ ⟨rfl,i+1,rfl,by omega⟩ (by omega)
  .refine ZH o λk5 h5 L=>ZDo (s:=⟨sj k5,0,0⟩) L ZEI (L.mem (c:=d) (by simp)) D rfl (by decide) rfl (Xh _) K (by decide) (by simp;omega) λc6 q m r h6 o6 w6=>?_;refine ZH o6 λk7 h7 o7=>ZBW (x:=x) (s:=⟨q,m,r⟩) o7 w6 rfl (by decide) (by decide) (by simp;omega) λc8 q8 m8 r8 h8 M w8=>?_;rw[H];refine ZDo (s:=⟨q8,m8,r8⟩) M w8 (M.mem (c:=d) (by simp)) D rfl (by decide) rfl K (Xc _) (by decide) (by simp;omega) λc9 q9 m9 r9 V o9 w9=>?_;exact Z ⟨q9,m9,r9⟩ c9 _ V (o9.pick [0] 2) w9 (by simp;omega)
 .refine ZG (λY=>?_) λ_=>E _ _ ⟨rfl,λe=>by cases e⟩;have F:i<xs.length:=by omega
  refine ZN D.row (Xb i) (by omega) λa X=>?_;exact Zd (cd:=ZP) (cf:=ci) D.row (o.mem (by simp)) rfl X (i:=i) (Xa F) rfl (k:=0) (y:=xs[i].ID) rfl (E _ _ ⟨rfl,λ_=>F⟩)
theorem ZR3{t:Int}(o:On h l)(hc:c∈l)(w:ZLv p n c)(hn:n<=1000000){Q:Sl->Hp->Prop}(hq:∀ s d ys h',On h' (d::l)->Own ZP d s ys->ys.length<=n->Q s h'):cx 251 [vp p,vi id,vi t] cSl h Q:=by
 obtain⟨xs,w,hl⟩:=w;refine c251 ?_;refine Zc (λz h'=>∃ (i:Nat) (d:Hp) (ys:List Za),z.2=(i:Int)/\i<=xs.length/\On h' (d::l)/\Own ZP d z.1 ys/\ys.length<=i) (λz=>xs.length-z.2.toNat) ⟨0,Hp.emp,[],rfl,Xh _,o.emp,Own.nil _,Xc _⟩ ?_;rintro J ⟨s,zi⟩ h1 again ⟨i,d,ys,hzi,hi,I,K,hy⟩
 dsimp only at hzi K;subst hzi;have H:c.sub h1:=I.mem (by simp[hc]);refine ZEC w H λsl _ _ wd=>?_;have X:=wd.1;refine ZG (λM=>?_) λ_=>hq s d ys h1 I K (by omega);have L:i<xs.length:=by dsimp only at M;omega
 have a0:xs[i]?=some xs[i]:=Xa L;refine ZI (λY h'=>∃ d2 D,On h' (d2::l)/\Own ZP d2 Y D/\D.length<=i+1) ?_ λJ2 F=>?_
 .rintro Y Z ⟨d2,D,o2,w2,O⟩;rw[Z1 (by omega)];exact again _ _ ⟨i+1,d2,D,rfl,by omega,o2,w2,O⟩ (by dsimp only;omega)
 refine ZG9 w H rfl rfl a0 ?_;refine ZI (λ_ h'=>h'=h1) ?_ λJ3 E=>ZD (λ_=>ZD (λ_=>E _ _ rfl) λ_=>E _ _ rfl) λ_=>E _ _ rfl;rintro t2 Z rfl;exact ZD (λ_=>ZM5 (x:=xs[i]) I K (by omega) λs' d' V h' o' w' hy'=>F _ _ ⟨d',V,o',w',by omega⟩) λ_=>F _ _ ⟨d,ys,I,K,by omega⟩
theorem ZYH(o:On h l)(hc:c∈l)(w:ZLv p n c)(hn:n<=1000000){Q:Sl->Hp->Prop}(hq:∀ s d ys h',On h' (d::l)->Own ZP d s ys->ys.length<=n->Q s h'):cx 98 [vp p,vi id] cSl h Q:=by
 obtain⟨xs,w,hl⟩:=w;refine c98 ?_;refine Zc (λz h'=>∃ (i:Nat) (d:Hp) (ys:List Za),z.2=(i:Int)/\i<=xs.length/\On h' (d::l)/\Own ZP d z.1 ys/\ys.length<=i) (λz=>xs.length-z.2.toNat) ⟨0,Hp.emp,[],rfl,Xh _,o.emp,Own.nil _,Xc _⟩ ?_;rintro J ⟨s,zi⟩ h1 again ⟨i,d,ys,hzi,hi,I,K,hy⟩
 dsimp only at hzi K;subst hzi;have D:c.sub h1:=I.mem (by simp[hc]);refine ZEC w D λsl _ _ wd=>?_;have X:=wd.1;refine ZG (λM=>?_) λ_=>hq s d ys h1 I K (by omega);have L:i<xs.length:=by dsimp only at M;omega
 have a0:xs[i]?=some xs[i]:=Xa L;refine ZI (λY h'=>∃ d2 E,On h' (d2::l)/\Own ZP d2 Y E/\E.length<=i+1) ?_ λJ2 F=>?_
 .rintro Y Z ⟨d2,E,o2,w2,O⟩;rw[Z1 (by omega)];exact again _ _ ⟨i+1,d2,E,rfl,by omega,o2,w2,O⟩ (by dsimp only;omega)
 refine ZI (λ_ h'=>h'=h1) ?_ λJ3 H=>ZDR w D rfl rfl a0 (cf:=ci) (k:=2) (y:=xs[i].Dealer) rfl (ZD (λ_=>ZDR w D rfl rfl a0 (cf:=cB) (k:=5) (y:=xs[i].Live) rfl (H _ _ rfl)) λ_=>H _ _ rfl);rintro t2 Z rfl;exact ZD (λ_=>ZG9 w D rfl rfl a0 (ZM5 (x:=xs[i]) I K (by omega) λs' d' V h' o' w' hy'=>F _ _ ⟨d',V,o',w',by omega⟩)) λ_=>F _ _ ⟨d,ys,I,K,by omega⟩
theorem ZP4(o:On h (c::l))(w:ZLv p n c)(hn:n<=1000000){Q:Sl->Hp->Prop}(hq:∀ s d ys c' h',On h' (c'::d::l)->Own ci d s ys->ys.length<=n->ZLv p n c'->Q s h'):cx 255 [vp p,vi id] cSl h Q:=by
 obtain⟨xs,w,hl⟩:=w;refine c255 ?_;refine Zc (λz h'=>∃ (i:Nat) (d1 d2:Hp) (ys D:List Za),z.2.2=(i:Int)/\i<=xs.length/\On h' (d1::d2::c::l)/\Own ZP d1 z.1 ys/\Own ZP d2 z.2.1 D/\ys.length<=i/\D.length<=i) (λz=>xs.length-z.2.2.toNat) ⟨0,Hp.emp,Hp.emp,[],[],rfl,Xh _,o.emp.emp,Own.nil _,Own.nil _,Xc _,Xc _⟩ ?_;rintro J ⟨s1,s2,zi⟩ h1 again ⟨i,d1,d2,ys,D,hzi,hi,o1,X,w2,hy,hz⟩
 dsimp only at hzi X w2;subst hzi;have E:c.sub h1:=o1.mem (by simp);refine ZEC w E λsl _ _ wd=>?_;have hlen:=wd.1;refine ZG (λL=>?_) λ_=>?_
 .have Y:i<xs.length:=by dsimp only at L;omega
  have a0:xs[i]?=some xs[i]:=Xa Y;refine ZI (λz2 h'=>∃ O I F H,On h' (O::I::c::l)/\Own ZP O z2.1 F/\Own ZP I z2.2 H/\F.length<=i+1/\H.length<=i+1) ?_ λJ2 K=>?_
  .rintro z2 h2 ⟨O,I,F,H,o2,w3,M,ac,ae⟩;rw[Z1 (by omega)];exact again _ _ ⟨i+1,O,I,F,H,rfl,by omega,o2,w3,M,ac,ae⟩ (by dsimp only;omega)
  refine ZDR w E rfl rfl a0 (cf:=ci) (k:=1) (y:=xs[i].Ask) rfl (ZD (λ_=>ZG9 w E rfl rfl a0 ?_) λ_=>ZG9 w E rfl rfl a0 (ZH o1 λk3 h3 o3=>?_))
  .exact ZM5 (x:=xs[i]) o1.swap w2 (by omega) λs' d' ys' h' o' w' hy'=>K _ _ ⟨d1,d',ys,ys',o'.swap,X,w',by omega,by omega⟩
  .exact ZBW (x:=xs[i]) o3 X rfl (by decide) (by decide) (by omega) λI q m r h4 o4 M=>K (⟨q,m,r⟩,s2) _ ⟨I,d2,_,D,o4,M,w2,by simp;omega,by omega⟩
 .obtain ⟨b,sl,d,rfl,oc,wd⟩:=w;have o2:On h1 (ob b [sv sl] 126::d::d1::d2::l):=(o1.pick [2,0,1] 3).split oc;dsimp only[ZM];refine ZX (cd:=cSl) (i:=0) (x:=s1) (vs':=[sv s1]) o2 rfl rfl (Xc 1) λh3 o3=>?_;have ab:=w2.1;obtain⟨c4,o4,M⟩:=Zv.close (o3.pick [0,2,3] 4) X;refine Zc (λz h'=>∃ (j:Nat) (V:Hp) (ns:List Int),z.2=(j:Int)/\j<=D.length/\On h' (V::c4::d2::l)/\Own ci V z.1 ns/\ns.length<=j) (λz=>D.length-z.2.toNat) ⟨0,Hp.emp,[],rfl,Xh _,o4.emp,Own.nil _,Xc _⟩ ?_;rintro J3 ⟨s5,zj⟩ h5 again3 ⟨j,V,ns,hzj,hj,o5,w5,hns⟩;dsimp only at hzj w5;subst hzj;dsimp only;refine ZG (λL=>?_) λ_=>hq s5 V ns c4 h5 (o5.pick [1,0] 3) w5 (by omega) ⟨_,M,by omega⟩;have Z:j<D.length:=by omega
  have a0:D[j]?=some D[j]:=Xa Z;refine ZN w2.row (Xb j) (by omega) λa ha=>Zd (cd:=ZP) (cf:=ci) w2.row (o5.mem (c:=d2) (by simp)) rfl ha (i:=j) a0 (by rfl) (k:=0) (y:=D[j].ID) rfl ?_;refine ZH o5 λk6 h6 o6=>ZBW (cd:=ci) (x:=D[j].ID) o6 w5 rfl (by decide) (by decide) (by omega) λd7 q m r h7 o7 w7=>?_;rw[Z1 (by omega)];exact again3 _ _ ⟨j+1,d7,_,rfl,by omega,o7,w7,by simp;omega⟩ (by dsimp only;omega)
theorem ZS9{s:Sl}{xs:List Za}(H:d.sub h)(w:Own ZP d s xs)(hl:xs.length<=1000000){Q:Za×Bool->Hp->Prop}(M:∀ r,Q r h):cx 250 [vi sd,Value.slice s.a s.len s.cap] (ZV [ZP,cB]) h Q:=by
 refine c250 ?_;have L:=w.1;refine ZI (λt h'=>h'=h/\(t=false->0<xs.length)) ?_ λJ K=>ZEt (ZD (λ_=>K _ _ ⟨rfl,λe=>by cases e⟩) λ_=>K _ _ ⟨rfl,λe=>?_⟩)
 .rintro t V ⟨rfl,Z⟩;refine ZD (λ_=>M _) λe=>?_;have O:=Z e;refine ZN w.row (by decide) (by omega) λa D=>ZQ w.row H rfl D (i:=0) (Xa O) rfl ?_;refine Zc (λz h'=>h'=V/\∃ i:Nat,z.2=(i:Int)/\i<=xs.length) (λz=>xs.length-z.2.toNat) ⟨rfl,0,rfl,Xh _⟩ ?_;rintro J1 ⟨m,zi⟩ h2 again ⟨rfl,i,hzi,hi⟩
  dsimp only at hzi;subst hzi;dsimp only;refine ZG (λY=>?_) λ_=>M _;have I:i<xs.length:=by omega
  have a0:xs[i]?=some xs[i]:=Xa I;refine ZI (λ_ h'=>h'=h2) ?_ λJ2 F=>ZI (λ_ h'=>h'=h2) ?_ λJ3 E=>?_
  .rintro z2 X rfl;rw[Z1 (by omega)];exact again _ _ ⟨rfl,i+1,rfl,by omega⟩ (by dsimp only;omega)
  .rintro t X rfl;exact ZD (λ_=>ZN w.row (Xb i) (by omega) λa D=>ZQ w.row H rfl D (i:=i) a0 rfl (F _ _ rfl)) λ_=>F _ _ rfl
  .refine ZN w.row (Xb i) (by omega) λa D=>?_;rw[w.part_at D];refine Zd (cd:=ZP) (cf:=ci) w.row H rfl D (i:=i) a0 rfl (k:=3) (y:=xs[i].Price) rfl (ZGE (ZD (λ_=>E _ _ rfl) λ_=>?_));refine ZN w.row (Xb i) (by omega) λa D=>?_;rw[w.part_at D];refine Zd (cd:=ZP) (cf:=ci) w.row H rfl D (i:=i) a0 rfl (k:=3) (y:=xs[i].Price) rfl (ZD (λ_=>?_) λ_=>E _ _ rfl);exact ZN w.row (Xb i) (by omega) λa D=>Zd (cd:=ZP) (cf:=ci) w.row H rfl D (i:=i) a0 rfl (k:=0) (y:=xs[i].ID) rfl (E _ _ rfl)
 .have:(s.len:Int)≠0:=by simpa using e
  omega
end
def ZQs(p:Option Addr)(n:Nat)(c:Hp):Prop:=∃ xs:List Due,Zv ZAs 131 p xs c/\xs.length<=n
def ZZe(p:Option Addr)(n:Nat)(c:Hp):Prop:=∃ xs:List Z2,Zv Zl 134 p xs c/\xs.length<=n
def ZKy(nb:Nat)(ss:List Sl)(ds:List Hp):Prop:=ds.length=ss.length/\∀ (i:Nat) (s:Sl) (d:Hp),ss[i]?=some s->ds[i]?=some d->∃ r:List Int,Own ci d s r/\r.length=nb
def ZZf(p:Option Addr)(np nb:Nat)(c:Hp):Prop:=
 ∃ (b:Nat) (s1 s2:Sl) (d1 d2:Hp) (ss:List Sl) (ds:List Hp) (cs:List Int),p=sj b/\On c (ob b [sv s1,sv s2] 185::d1::d2::ds)/\Own cSl d1 s1 ss/\Own ci d2 s2 cs/\ZKy nb ss ds/\ss.length=np/\cs.length=np
section
variable {p:Option Addr}{np nb n:Nat}{c h:Hp}{l:List Hp}{id:Int}
theorem ZRt(o:On h (c::l))(w:ZQs p n c)(hn:n<=1000000){Q:Bool->Hp->Prop}(hq:∀ r c' h',On h' (c'::l)->ZQs p n c'->Q r h'):cx 99 [vp p,vi kind,vi id] cB h Q:=by
 obtain⟨xs,w,hl⟩:=w;refine c99 ?_;refine Zc (λz h'=>∃ (i:Nat) (d:Hp) (ys:List Due),z.2=(i:Int)/\i<=xs.length/\On h' (d::c::l)/\Own ZAs d z.1 ys/\ys.length<=i) (λz=>xs.length-z.2.toNat) ⟨0,Hp.emp,[],rfl,Xh _,o.emp,Own.nil _,Xc _⟩ ?_;rintro J ⟨s,zi⟩ h1 again ⟨i,d,ys,hzi,hi,I,K,hy⟩
 dsimp only at hzi K;subst hzi;have D:c.sub h1:=I.mem (by simp);refine ZEC w D λsl _ _ wd=>?_;have ab:=wd.1;refine ZG (λM=>?_) λ_=>?_
 .have L:i<xs.length:=by dsimp only at M;omega
  have a0:xs[i]?=some xs[i]:=Xa L;refine ZI (λz2 h'=>∃ d2 E,On h' (d2::c::l)/\Own ZAs d2 z2 E/\E.length<=i+1) ?_ λJ2 F=>ZI (λ_ h'=>h'=h1) ?_ λJ3 H=>?_
  .rintro z2 h2 ⟨d2,E,o2,w2,O⟩;rw[Z1 (by omega)];exact again _ _ ⟨i+1,d2,E,rfl,by omega,o2,w2,O⟩ (by dsimp only;omega)
  .rintro t2 h2 rfl;exact ZD (λ_=>ZG9 w D rfl rfl a0 (ZH I λk3 Z V=>ZBW (x:=xs[i]) V K rfl (by decide) (by decide) (by omega) λd4 q m r h4 X Y=>F ⟨q,m,r⟩ _ ⟨d4,_,X,Y,by simp;omega⟩)) λ_=>F _ _ ⟨d,ys,I,K,by omega⟩
  .exact ZDR w D rfl rfl a0 (cf:=ci) (k:=1) (y:=xs[i].Kind) rfl (ZD (λ_=>H _ _ rfl) λ_=>ZDR w D rfl rfl a0 (cf:=ci) (k:=2) (y:=xs[i].ID) rfl (H _ _ rfl))
 .obtain ⟨b,sl,d2,rfl,oc,wd⟩:=w;have o2:On h1 (ob b [sv sl] 131::d2::d::l):=I.swap.split oc;dsimp only[ZM];refine ZL (x:=sl) o2 0 rfl rfl (ZX (cd:=cSl) (i:=0) (x:=s) (vs':=[sv s]) o2 rfl rfl (Xc 1) λZ V=>?_);obtain⟨c4,X,Y⟩:=Zv.close (V.pick [0,2] 3) K;exact hq _ c4 Z X ⟨_,Y,by omega⟩
theorem ZWc{x:Due}(o:On h (c::l))(w:ZQs p n c)(hn:n<=999999){Q:Bool->Hp->Prop}(Y:∀ r c' h',On h' (c'::l)->ZQs p (n+1) c'->Q r h'):cx 242 [vp p,ZAs.enc x] cB h Q:=by
 obtain⟨xs,w,hl⟩:=w;refine c242 (d:=x) ?_;have H:c.sub h:=o.mem (by simp);refine Zc (λz h'=>h'=h/\∃ (i k:Nat),z.2=(i:Int)/\i<=xs.length/\z.1=(k:Int)/\k<=i) (λz=>xs.length-z.2.toNat) ⟨rfl,0,0,rfl,Xh _,rfl,Xc _⟩ ?_;rintro J ⟨m,zi⟩ h1 again ⟨rfl,i,k,hzi,hi,hm,hk⟩
 dsimp only at hzi hm;subst hzi hm;refine ZEC w H λsl _ _ O=>?_;have X:=O.1;refine ZG (λM=>?_) λ_=>?_
 .have K:i<xs.length:=by dsimp only at M;omega
  have a0:xs[i]?=some xs[i]:=Xa K;refine ZI (λm h'=>h'=h1/\∃ k:Nat,m=(k:Int)/\k<=i+1) ?_ λV D=>ZI (λ_ h'=>h'=h1) ?_ λJ3 E=>?_
  .rintro m F ⟨rfl,k2,rfl,L⟩;rw[Z1 (by omega)];exact again _ _ ⟨rfl,i+1,k2,rfl,by omega,rfl,L⟩ (by dsimp only;omega)
  .rintro t F rfl;refine ZD (λ_=>Y _ c F o ⟨xs,w,by omega⟩) λ_=>ZG9 w H rfl rfl a0 (c306 (d:=xs[i]) (e:=x) ?_);have I:∀ t,ZB t (V (i64.wrap ((i:Int)+1)) F) (V (k:Int) F):=λt=>ZD (λ_=>D _ _ ⟨rfl,i+1,Z1 (by omega),Xc _⟩) λ_=>D _ _ ⟨rfl,k,rfl,by omega⟩;exact ZD (λ_=>I _) λ_=>ZD (λ_=>I _) λ_=>I _
  .exact ZDR w H rfl rfl a0 (cf:=ci) (k:=1) (y:=xs[i].Kind) rfl (ZD (λ_=>ZDR w H rfl rfl a0 (cf:=ci) (k:=2) (y:=xs[i].ID) rfl (E _ _ rfl)) λ_=>E _ _ rfl)
 .obtain ⟨b,sl,d,rfl,oc,O⟩:=w;exact ZbU (x:=x) (bytes:=24) (k:=k) rfl (o.split oc) O rfl (by decide) rfl (by omega) (by decide) (by omega) λc4 Z o4 w4=>Y _ c4 Z o4 ⟨_,w4,by simp;omega⟩
theorem ZUU{t:Int}(o:On h (c::l))(w:ZQs p n c)(hn:n<=1000000){Q:Sl->Hp->Prop}(hq:∀ s d ys c' h',On h' (c'::d::l)->Own ZAs d s ys->ys.length<=n->ZQs p n c'->Q s h'):cx 92 [vp p,vi t] cSl h Q:=by
 obtain⟨xs,w,hl⟩:=w;refine c92 ?_;have L:c.sub h:=o.mem (by simp);refine Zc (λm h'=>h'=h/\∃ i:Nat,m=(i:Int)/\i<=xs.length) (λm=>xs.length-m.toNat) ⟨rfl,0,rfl,Xh _⟩ ?_;rintro J m Y D ⟨rfl,i,rfl,O⟩
 refine ZI (λt h'=>h'=Y/\(t=true->i<xs.length)) ?_ λJ2 F=>?_
 .rintro t h2 ⟨rfl,ht⟩;refine ZD (λe=>?_) λ_=>?_
  .have:=ht e;rw[Z1 (by omega)];exact D _ _ ⟨rfl,i+1,rfl,by omega⟩ (by omega)
  .obtain ⟨b,sl,d,rfl,oc,E⟩:=w;have I:=E.1;have M:=E.le_cap (by decide);refine ZH (o.split oc) λk3 h3 K=>?_;dsimp only[ZM];refine ZL (x:=sl) K 1 rfl rfl ⟨Xb _,by omega,ZDo (s:=⟨sj k3,0,0⟩) K ZEI (K.mem (c:=d) (by simp)) E rfl (by decide) rfl (Xh _) O (by decide) (by simp;omega) λc4 q m r h4 V w4=>?_⟩;refine ZL (x:=sl) V 1 rfl rfl ⟨Xb _,by omega,?_⟩;refine ZX (cd:=cSl) (i:=0) (x:=⟨Zh sl.a i sl.cap 3,sl.len-i,sl.cap-i⟩) (vs':=[sv ⟨Zh sl.a i sl.cap 3,sl.len-i,sl.cap-i⟩]) V.swap rfl rfl (Xc 1) λZ o5=>?_;obtain⟨X,o6,w6⟩:=Zv.close (o5.pick [0,2,1] 3) (E.from rfl (by decide) O rfl);exact hq ⟨q,m,r⟩ c4 _ X Z o6 w4 (by simp;omega) ⟨_,w6,by rw[XN];omega⟩
 .refine ZEC w L λsl _ _ E=>?_;have I:=E.1;refine ZG (λab=>?_) λ_=>F _ _ ⟨rfl,λe=>by cases e⟩;have H:i<xs.length:=by omega
  exact ZUF w L rfl rfl (Xa H) (cf:=ci) (y:=xs[i].Tick) rfl (F _ _ ⟨rfl,λ_=>H⟩)
theorem ZVb{x:Z2}(o:On h (c::l))(w:ZZe p n c)(hn:n<=999999){Q:Z2->Hp->Prop}(I:∀ t c' h',On h' (c'::l)->ZZe p (n+1) c'->Q t h'):cx 312 [vp p,Zl.enc x] Zl h Q:=by obtain⟨xs,⟨b,sl,d,rfl,O,F⟩,hl⟩:=w;refine c312 (d:=x) ?_;have D:=o.split O;have E:=F.1;dsimp only[ZM];refine ZL (x:=sl) D 0 rfl rfl (ZL (x:=sl) D 0 rfl rfl (ZH D λk1 Y K=>?_));refine ZBW (x:=(⟨i64.wrap ((sl.len:Int)+1),x.Bond,x.Buyer,x.Seller,x.Price,x.Qty,x.Ask,x.Tick⟩:Z2)) (K.pick [0,2,1] 3) F rfl (by decide) (by decide) (by omega) λc2 q m r Z o2 V=>?_;refine ZX (cd:=cSl) (i:=0) (x:=⟨q,m,r⟩) (vs':=[sv ⟨q,m,r⟩]) o2.swap rfl rfl (Xc 1) λH L=>?_;obtain⟨c4,M,X⟩:=Zv.close L V;exact I _ c4 H M ⟨_,X,by simp;omega⟩
theorem ZU4{x:Z2}(o:On h l){Q:Sl->Hp->Prop}(H:∀ s d os h',On h' (d::l)->Own ZCH d s os->os.length=2->Q s h'):cx 311 [Zl.enc x] cSl h Q:=by refine c311 (d:=x) ?_;refine ZH o λk1 M E=>ZGm (p:=⟨sj k1,6,6⟩) (E.get (i:=0) rfl) (Zk (cd:=ci) (xs:=[x.ID,1,x.Bond,x.Price,x.Qty,x.Seller]) rfl rfl) ?_;refine ZH E λI O o2=>ZGm (p:=⟨sj I,6,6⟩) (o2.get (i:=0) rfl) (Zk (cd:=ci) (xs:=[x.ID,2,x.Bond,x.Price,x.Qty,x.Buyer]) rfl rfl) ?_;generalize mkM 28 _=w;generalize mkM 28 _=D;refine ZH o2 λK F L=>?_;exact H ⟨sj K,2,2⟩ _ [⟨x.Buyer,w.Kind,w.F_0,w.F_1,w.F_2,w.F_3,w.F_4,w.F_5⟩,⟨x.Seller,D.Kind,D.F_0,D.F_1,D.F_2,D.F_3,D.F_4,D.F_5⟩] F (L.pick [0] 3) (ZAx (rest:=[]) rfl rfl rfl) rfl
theorem ZR2(F:c.sub h)(w:ZZf p np nb c){Q:Bool->Hp->Prop}(D:Q (decide (0<=who/\who<np)) h):cx 347 [vp p,vi who] cB h Q:=by
 obtain⟨b,s1,s2,d1,d2,ss,ds,cs,rfl,H,O,I,M,K,L⟩:=w;refine c347 ?_;have E:=I.1;refine ZG (λe=>ZK (Hp.sub_trans (H.get (i:=0) rfl) F) (cd:=cSl) (i:=1) (x:=s2) rfl ?_) λe=>?_
 .rw [show decide (0<=who/\who<(np:Int))=decide (who<(s2.len:Int)) from XE.2 (by omega)]at D;exact D
 .rwa [Xj (by omega)]at D
theorem ZKy.put{I:List Hp}(hr:ZKy nb ss ds)(o:On h (ds++I)){s:Sl}(F:ss[i]?=some s){j:Int}(Z:0<=j/\j<nb){y:Int}{K:Hp->Prop}(X:∀ ds' h',On h' (ds'++I)->ZKy nb ss ds'->K h'):
 Zb s.a s.len j λa=>ZS ci (a.add (j.toNat*1)) y h K:=by
 have hi:=(Xi.1 F).1;obtain⟨hl,M⟩:=hr;have L:ds[i]?=some (ds[i]'(by omega)):=Xa (by omega);obtain⟨r,H,E⟩:=M i s _ F L;have V:=H.1;refine ZN H.row Z.1 (by omega) λa Y=>?_;refine ZA4 (o.at' i L) rfl H Y (i:=j.toNat) (by omega) rfl λd' h' o' w'=>?_;refine X _ h' (o'.back' (by omega)) ⟨by rw[Xp];exact hl,λk s2 d2 D w=>?_⟩;by_cases O:i=k
 .subst O;rw[XM (by omega)]at w;rw[F]at D;cases D;cases w;exact⟨_,w',by rw[Xp];exact E⟩
 .rw [WZ O]at w;exact M k s2 d2 D w
theorem ZWX{x:Z2}(o:On h (c::l))(w:ZZf p np nb c)(hnp:1<=np)(hq:∀ r c' h',On h' (c'::l)->ZZf p np nb c'->Q r h'):cx 310 [vp p,Zl.enc x] ci h Q:=by
 refine c310 (d:=x) ?_;have L:c.sub h:=o.mem (by simp);refine ZI (λt h'=>h'=h/\(t=false->(0<=x.Buyer/\x.Buyer<np)/\(0<=x.Seller/\x.Seller<np)/\0<=x.Bond/\x.Bond<nb)) ?_ λJ D=>?_
 ·rintro t H ⟨rfl,ht⟩;refine ZD (λ_=>hq _ c H o w) λe=>?_;obtain⟨hb,V,hn⟩:=ht e;have w0:=w;obtain⟨b,s1,s2,d1,d2,ss,ds,cs,rfl,M,O,w2,Z,h1',h2'⟩:=w;have I:=Hp.sub_trans (M.get (i:=0) rfl) L;have hd1:d1.sub H:=Hp.sub_trans (M.mem (by simp)) L;have hd2:d2.sub H:=Hp.sub_trans (M.mem (by simp)) L;have hl1:=O.1;have hl2:=w2.1;dsimp only[ZM];have ld:∀ {who:Int} (hw:0<=who/\who<np) {K:Sl->Prop},(∀ s,ss[who.toNat]?=some s->K s)->ZC cSl ((⟨b,0,none⟩:Addr).add 0) H λs=>Zb s.a s.len who λa=>ZC cSl (a.add (who.toNat*1)) H K:=fun {who} hw {K} hK=>
   ZK I (cd:=cSl) (x:=s1) rfl (ZN O.row hw.1 (by omega) λa F=>by
    have a0:ss[who.toNat]?=some (ss[who.toNat]'(by omega)):=Xa (by omega);exact ZQ O.row hd1 rfl F a0 rfl (hK _ a0))
  have rw0:∀ {who:Int} {s:Sl} {K:Int->Prop},ss[who.toNat]?=some s->(∀ y,K y)->Zb s.a s.len x.Bond λa=>ZC ci (a.add (x.Bond.toNat*1)) H K:=λ{who s K} V hK=>by have hi:=(Xi.1 V).1;have hdl:=Z.1;have hd:ds[who.toNat]?=some (ds[who.toNat]'(by omega)):=Xa (by omega);obtain⟨r,wr,hrl⟩:=Z.2 _ _ _ V hd;have hlr:=wr.1;refine ZN wr.row hn.1 (by omega) λa F=>ZQ wr.row (Hp.sub_trans (M.mem ?_) L) rfl F (Xa (show x.Bond.toNat<r.length by omega)) rfl (hK _);exact Xq _ (Xq _ (Xq _ (Xs _)))
  have lc:∀ {who:Int} (hw:0<=who/\who<np) {K:Int->Prop},(∀ y,K y)->ZC cSl ⟨b,0+1,none⟩ H λs=>Zb s.a s.len who λa=>ZC ci (a.add (who.toNat*1)) H K:=λ{who} hw {K} hK=>
   ZK I (cd:=cSl) (i:=1) (x:=s2) rfl (ZN w2.row hw.1 (by omega) λa F=>ZQ w2.row hd2 rfl F (Xa (show who.toNat<cs.length by omega)) rfl (hK _))
  refine ZEW λr1 _=>ZJh (a:=r1.1) λr2=>?_;refine ld hb λsb X=>rw0 X λy1=>ZNe λr3=>?_;refine ld V λst Y=>rw0 Y λy2=>ZSM λr4=>?_;refine lc hb λy3=>ZSM λr5=>lc V λy4=>ZNe λr6=>?_;refine ZI (λ_ h'=>h'=H) ?_ λJ D=>ZD (λ_=>D _ _ rfl) λ_=>ZD (λ_=>D _ _ rfl) λ_=>ZD (λ_=>D _ _ rfl) λ_=>ZD (λ_=>D _ _ rfl) λ_=>D _ _ rfl;rintro t2 h2 rfl;refine ZD (λ_=>hq _ c h2 o w0) λ_=>?_;refine ld hb λsb X=>ld V λst Y=>ZK I (cd:=cSl) (i:=1) (x:=s2) rfl (ZK I (cd:=cSl) (i:=1) (x:=s2) rfl ?_);have o2:On h2 (ds++(ob b [sv s1,sv s2] 185::d1::d2::l)):=(o.split M).perm (List.perm_append_comm (l₁:=[ob b [sv s1,sv s2] 185,d1,d2]) (l₂:=ds) |>.append (WO l) |>.trans (by simp));refine Z.put o2 X hn λds3 h3 o3 hr3=>hr3.put o3 Y hn λE h4 o4 hr4=>?_;have o5:On h4 (d2::ob b [sv s1,sv s2] 185::d1::(E++l)):=o4.perm ((List.perm_append_comm (l₁:=E) (l₂:=[ob b [sv s1,sv s2] 185,d1,d2])).append (WO l) |> λq=>(by simpa using q:(E++(ob b [sv s1,sv s2] 185::d1::d2::l)).Perm _).trans ((Xt _ _ _).cons _ |>.trans (Xt _ _ _)));refine ZN w2.row hb.1 (by omega) λa F=>ZA4 o5 rfl w2 F (i:=x.Buyer.toNat) (by omega) rfl λd6 h6 o6 w6=>?_;refine ZN w6.row V.1 (by rw[Xp];omega) λa F=>ZA4 o6 rfl w6 F (i:=x.Seller.toNat) (by rw[Xp];omega) rfl λd7 h7 o7 w7=>?_;obtain⟨o8,o9⟩:=On.joined (cs:=ob b [sv s1,sv s2] 185::d1::d7::E) (l:=l) (o7.perm ((Xt _ _ _).trans ((Xt _ _ _).cons _)));exact hq _ _ h7 o8 ⟨b,s1,s2,d1,d7,ss,E,_,rfl,o9,O,w7,hr4,h1',by rw[Xp,Xp];exact h2'⟩
 .refine ZR2 L w (ZD (λ_=>D _ _ ⟨rfl,λe=>by cases e⟩) λe1=>ZR2 L w (ZD (λ_=>D _ _ ⟨rfl,λe=>by cases e⟩) λe2=>?_));have e1:0<=x.Buyer/\x.Buyer<np:=by simpa using e1
  have e2:0<=x.Seller/\x.Seller<np:=by simpa using e2
  refine ZD (λ_=>D _ _ ⟨rfl,λe=>by cases e⟩) λ_=>ZG (λ_=>D _ _ ⟨rfl,λe=>by cases e⟩) λe3=>?_;obtain⟨b,s1,s2,d1,d2,ss,ds,cs,rfl,M,O,w2,Z,h1',h2'⟩:=w;have hl1:=O.1;have a0:ss[0]?=some (ss[0]'(by omega)):=Xa (by omega);have hdl:=Z.1;have hd:ds[0]?=some (ds[0]'(by omega)):=Xa (by omega);obtain⟨r,wr,hrl⟩:=Z.2 _ _ _ a0 hd;have hlr:=wr.1;refine ZK (Hp.sub_trans (M.get (i:=0) rfl) L) (cd:=cSl) (x:=s1) rfl (ZN O.row (by decide) (by omega) λa F=>ZQ O.row (Hp.sub_trans (M.mem (by simp)) L) rfl F a0 rfl ?_);exact ZG (λ_=>D _ _ ⟨rfl,λe=>by cases e⟩) λe4=>ZD (λ_=>D _ _ ⟨rfl,λe=>by cases e⟩) λ_=>D _ _ ⟨rfl,λ_=>⟨e1,e2,by omega,by omega⟩⟩
end
structure RK where
 b:Nat
 sb:Sl
 sk:Sl
 pf:Option Addr
 pq:Option Addr
 pa:Option Addr
 pd:Option Addr
 pp:Option Addr
 pt:Option Addr
structure RN where
 look:Int
 now:Int
 qn:Int
 an:Int
 so:Sl
def ZBP(k:RK)(S:DS)(z:RN):List Value:=
 [sv k.sb,vi z.look,vi z.now,sv k.sk,vp k.pf,vp k.pq,vp k.pa,vp k.pd,vp k.pp,vp k.pt,vi S.order,vi S.seq,vi z.qn,vi z.an,sv z.so]
def ZFV(ps:List (Option Addr))(bs:List (List ZE))(cs:List Hp):Prop:=
 ps.length=bs.length/\cs.length=bs.length/\∀ (i:Nat) (p:Option Addr) (b:List ZE) (c:Hp),ps[i]?=some p->bs[i]?=some b->cs[i]?=some c->ZGB p b c
def IsR(k:RK)(S:DS)(n m:Nat)(D:Hp):Prop:=
 ∃ (z:RN) (os:List Out) (dB dK dO cF cQ cA cD cO cT:Hp) (ks:List (Option Addr)) (cs:List Hp),
  On D (ob k.b (ZBP k S z) 43::dB::dK::dO::cF::cQ::cA::cD::cO::cT::cs)/\Own Zs dB k.sb S.bonds/\Own cP dK k.sk ks/\(Own ZCH dO z.so os/\os.length<=m)/\
  ZUZ k.pf S.parties cF/\ZLv k.pq n cQ/\ZMS k.pa S.books.length n cA/\ZQs k.pd n cD/\ZZf k.pp S.parties.length S.books.length cO/\ZZe k.pt n cT/\ZFV ks S.books cs
def Zr(k:RK)(S:DS)(n m:Nat)(h:Hp)(l:List Hp):Prop:=∃ D,On h (D::l)/\IsR k S n m D
variable {n:Nat}
theorem ZLv.mono(w:ZLv p n c)(h:n<=n'):ZLv p n' c:=by obtain⟨x,w,l⟩:=w;exact⟨x,w,by omega⟩
theorem ZMS.mono(w:ZMS p nb n c)(h:n<=n'):ZMS p nb n' c:=by obtain⟨x,w,l,b⟩:=w;exact⟨x,w,by omega,b⟩
theorem ZQs.mono(w:ZQs p n c)(h:n<=n'):ZQs p n' c:=by obtain⟨x,w,l⟩:=w;exact⟨x,w,by omega⟩
theorem ZZe.mono(w:ZZe p n c)(h:n<=n'):ZZe p n' c:=by obtain⟨x,w,l⟩:=w;exact⟨x,w,by omega⟩
structure Eq5 (S T:DS):Prop where
 bonds:T.bonds=S.bonds
 books:T.books=S.books
 parties:T.parties=S.parties
 order:T.order=S.order
 seq:T.seq=S.seq
section
variable {k:RK}{S T:DS}{n n' m m':Nat}{h:Hp}{l:List Hp}
theorem Zr.mono(a:Zr k S n m h l)(w:n<=n')(Y:m<=m'):Zr k S n' m' h l:=by obtain⟨D,o,z,os,dB,dK,L,cF,I,E,F,H,K,ks,cs,M,O,V,⟨X,hl⟩,wF,wQ,wA,wD,wO,wT,wb⟩:=a;exact⟨D,o,z,os,dB,dK,L,cF,I,E,F,H,K,ks,cs,M,O,V,⟨X,by omega⟩,wF,wQ.mono w,wA.mono w,wD.mono w,wO,wT.mono w,wb⟩
theorem Zr.eq5(a:Zr k S n m h l)(e:Eq5 S T):Zr k T n m h l:=by
 obtain⟨D,o,z,os,dB,dK,M,cF,K,F,H,I,L,ks,cs,E,w⟩:=a;refine⟨D,o,z,os,dB,dK,M,cF,K,F,H,I,L,ks,cs,?_,?_⟩
 .unfold ZBP at E⊢;rw[e.order,e.seq];exact E
 .rw [e.bonds,e.parties,e.books];exact w
theorem Zr.sub(a:Zr k S n m h l)(w:g∈l):g.sub h:=by obtain⟨D,o,_⟩:=a;exact o.mem (by simp[w])
theorem Zr.drop(a:Zr k S n m h (g::l)):Zr k S n m h l:=by obtain⟨D,o,w⟩:=a;exact⟨D,o.sublist (XC _ (Xz _ _)),w⟩
theorem Zr.ob(a:Zr k S n m h l):∃ z,(Go.Eng.ob k.b (ZBP k S z) 43).sub h:=by obtain⟨D,o,z,os,dB,dK,L,cF,I,E,F,H,K,ks,cs,w,_⟩:=a;exact⟨z,Hp.sub_trans (w.get (i:=0) rfl) (o.mem (by simp))⟩
theorem Zr.ld(a:Zr k S n m h l){cd:Cdc}{K:cd.T->Prop}(E:∀ z,∃ x:cd.T,((ZBP k S z).drop i).take (cd.enc x).cells.toList.length=(cd.enc x).cells.toList/\K x):ZC cd ⟨k.b,i,none⟩ h K:=by obtain⟨z,F⟩:=a.ob;obtain⟨x,w,D⟩:=E z;exact ZK F w D
theorem Zr.nums(a:Zr k S n m h l):∃ z R,On h (Go.Eng.ob k.b (ZBP k S z) 43::R::l)/\∀ h' l' now qn an order seq,On h' (Go.Eng.ob k.b (ZBP k {S with order:=order,seq:=seq} {z with now:=now,qn:=qn,an:=an}) 43::R::l')->Zr k {S with order:=order,seq:=seq} n m h' l':=by obtain⟨D,o,z,os,dB,dK,M,cF,K,F,H,I,L,ks,cs,Y,w⟩:=a;obtain⟨R,V,_,O⟩:=ZJs o Y (i:=0) rfl;refine⟨z,R,V,λh' l' now qn an order seq o'=>?_⟩;obtain⟨E,o2,X⟩:=O h' _ l' o';exact⟨E,o2,{z with now:=now,qn:=qn,an:=an},os,dB,dK,M,cF,K,F,H,I,L,ks,cs,X,w⟩
theorem Zr.outs(a:Zr k S n m h l):∃ z os d R,On h (Go.Eng.ob k.b (ZBP k S z) 43::d::R::l)/\Own ZCH d z.so os/\os.length<=m/\∀ h' l' so d' E m',On h' (Go.Eng.ob k.b (ZBP k S {z with so:=so}) 43::d'::R::l')->Own ZCH d' so E->E.length<=m'->Zr k S n m' h' l':=by
 obtain⟨D,o,z,os,dB,dK,M,cF,K,F,H,I,L,ks,cs,oc,wB,wK,⟨wo,hl⟩,w⟩:=a;have V:On D ([Go.Eng.ob k.b (ZBP k S z) 43,M]++(dB::dK::cF::K::F::H::I::L::cs)):=oc.perm (((Wg (l₁:=[dB,dK]) (a:=M)).cons _));have X:=o.split V;have o2:On h ((dB::dK::cF::K::F::H::I::L::cs)++([Go.Eng.ob k.b (ZBP k S z) 43,M]++l)):=X.perm (by
  rw[Xu];exact(YA _ _ _))
 obtain⟨Y,Z⟩:=On.joined o2;refine⟨z,os,M,_,Y.perm (Wg (l₁:=[Go.Eng.ob k.b (ZBP k S z) 43,M]) (l₂:=l)).symm,wo,hl,λh' l' so d' E m' o' w' O=>?_⟩;have o5:=(o'.perm (Wg (l₁:=[Go.Eng.ob k.b (ZBP k S {z with so:=so}) 43,d']) (l₂:=l'))).split Z;have o6:On h' ((Go.Eng.ob k.b (ZBP k S {z with so:=so}) 43::dB::dK::d'::cF::K::F::H::I::L::cs)++l'):=o5.perm (by
  refine(YA (dB::dK::cF::K::F::H::I::L::cs) [Go.Eng.ob k.b (ZBP k S {z with so:=so}) 43,d'] l').trans ?_;exact((Wg (l₁:=[dB,dK]) (a:=d')).symm.cons _))
 obtain⟨o7,o8⟩:=On.joined o6;exact⟨_,o7,{z with so:=so},E,dB,dK,d',cF,K,F,H,I,L,ks,cs,o8,wB,wK,⟨w',O⟩,w⟩
theorem Zr.bonds(a:Zr k S n m h l):∃ c R,On h (c::R::l)/\Own Zs c k.sb S.bonds/\∀ h' c' l' x,On h' (c'::R::l')->Own Zs c' k.sb x->Zr k {S with bonds:=x} n m h' l':=by obtain⟨D,o,z,os,dB,dK,M,cF,K,F,H,I,L,ks,cs,Y,Z,w⟩:=a;obtain⟨R,V,_,O⟩:=ZJs o Y (i:=1) rfl;refine⟨dB,R,V,Z,λh' c' l' x o' w'=>?_⟩;obtain⟨E,o2,X⟩:=O h' _ l' o';exact⟨E,o2,z,os,c',dK,M,cF,K,F,H,I,L,ks,cs,X,w',w⟩
theorem Zr.firm(a:Zr k S n m h l):∃ c R,On h (c::R::l)/\ZUZ k.pf S.parties c/\∀ h' c' l',On h' (c'::R::l')->ZUZ k.pf S.parties c'->Zr k S n m h' l':=by obtain⟨D,o,z,os,dB,dK,M,cF,K,F,H,I,L,ks,cs,Y,Z,wK,wo,wF,w⟩:=a;obtain⟨R,V,_,O⟩:=ZJs o Y (i:=4) rfl;refine⟨cF,R,V,wF,λh' c' l' o' w'=>?_⟩;obtain⟨E,o2,X⟩:=O h' _ l' o';exact⟨E,o2,z,os,dB,dK,M,c',K,F,H,I,L,ks,cs,X,Z,wK,wo,w',w⟩
theorem Zr.quotes(a:Zr k S n m h l):∃ c R,On h (c::R::l)/\ZLv k.pq n c/\∀ h' c' l' n',n<=n'->On h' (c'::R::l')->ZLv k.pq n' c'->Zr k S n' m h' l':=by obtain⟨D,o,z,os,dB,dK,O,cF,L,H,I,K,M,ks,cs,Z,wB,wK,wo,wF,wQ,wA,wD,wO,wT,w⟩:=a;obtain⟨R,X,_,V⟩:=ZJs o Z (i:=5) rfl;refine⟨L,R,X,wQ,λh' c' l' n' E o' w'=>?_⟩;obtain⟨F,o2,Y⟩:=V h' _ l' o';exact⟨F,o2,z,os,dB,dK,O,cF,c',H,I,K,M,ks,cs,Y,wB,wK,wo,wF,w',wA.mono E,wD.mono E,wO,wT.mono E,w⟩
theorem Zr.asks(a:Zr k S n m h l):∃ c R,On h (c::R::l)/\ZMS k.pa S.books.length n c/\∀ h' c' l' n',n<=n'->On h' (c'::R::l')->ZMS k.pa S.books.length n' c'->Zr k S n' m h' l':=by obtain⟨D,o,z,os,dB,dK,O,cF,L,H,I,K,M,ks,cs,Z,wB,wK,wo,wF,wQ,wA,wD,wO,wT,w⟩:=a;obtain⟨R,X,_,V⟩:=ZJs o Z (i:=6) rfl;refine⟨H,R,X,wA,λh' c' l' n' E o' w'=>?_⟩;obtain⟨F,o2,Y⟩:=V h' _ l' o';exact⟨F,o2,z,os,dB,dK,O,cF,L,c',I,K,M,ks,cs,Y,wB,wK,wo,wF,wQ.mono E,w',wD.mono E,wO,wT.mono E,w⟩
theorem Zr.dues(a:Zr k S n m h l):∃ c R,On h (c::R::l)/\ZQs k.pd n c/\∀ h' c' l' n',n<=n'->On h' (c'::R::l')->ZQs k.pd n' c'->Zr k S n' m h' l':=by obtain⟨D,o,z,os,dB,dK,O,cF,L,H,I,K,M,ks,cs,Z,wB,wK,wo,wF,wQ,wA,wD,wO,wT,w⟩:=a;obtain⟨R,X,_,V⟩:=ZJs o Z (i:=7) rfl;refine⟨I,R,X,wD,λh' c' l' n' E o' w'=>?_⟩;obtain⟨F,o2,Y⟩:=V h' _ l' o';exact⟨F,o2,z,os,dB,dK,O,cF,L,H,c',K,M,ks,cs,Y,wB,wK,wo,wF,wQ.mono E,wA.mono E,w',wO,wT.mono E,w⟩
theorem ZFV.set{ps:List (Option Addr)}{bs:List (List ZE)}{cs:List Hp}(w:ZFV ps bs cs){b:List ZE}(L:ps[i]?=some p)(X:ZGB p b c):ZFV ps (bs.set i b) (cs.set i c):=by
 obtain⟨K,O,V⟩:=w;refine⟨by simpa using K,by simpa using O,λj Y M c' H E F=>?_⟩;by_cases D:i=j
 .subst D;rw[L]at H;cases H;have I:i<bs.length:=by rw[<-K];exact(Xi.1 L).1
  rw[XM I]at E;rw[XM (by omega)]at F;cases E;cases F;exact X
 .rw [WZ D]at E F;exact V j Y M c' H E F
theorem Zr.book(a:Zr k S n m h l)(hi:i<S.books.length):∃ c R q a,On h (c::R::l)/\ZGB q S.books[i] c/\(k.sk.a=some a/\k.sk.len=S.books.length/\∀ h',R.sub h'->h'.rds ⟨k.b,3,none⟩ [sv k.sk]/\h'.rds (a.add ((i:Int).toNat*1)) [vp q])/\
 ∀ h' c' l' x,On h' (c'::R::l')->ZGB q x c'->Zr k {S with books:=S.books.set i x} n m h' l':=by
 obtain⟨D,o,z,os,dB,dK,dO,cF,cQ,O,cD,V,cT,ks,cs,oc,wB,H,wo,wF,wQ,wA,wD,wO,wT,wb⟩:=a;obtain⟨w,I,E⟩:=wb;have Y:cs[i]?=some cs[i]:=Xa (by omega);have M:ks[i]?=some ks[i]:=Xa (by omega);have hx:S.books[i]?=some S.books[i]:=Xa hi;obtain⟨R,o1,oR,L⟩:=ZJs o oc (i:=i+10) Y;have hkl:=H.1
 have F:∃ a,k.sk.a=some a:=by
  have:=H.row.2;cases e:k.sk.a with
  | none=>
    rw[e]at this;have:ks=[]:=this;subst this;rw[Yd]at w;omega
  | some a=>exact⟨a,rfl⟩
 obtain⟨a,F⟩:=F;have mem:∀ d∈[Go.Eng.ob k.b (ZBP k S z) 43,dB,dK],d.sub R:=λd Z=>oR.mem (by
  rw[VI,VI,VI];simp only[Xm,XW,Ye]at Z⊢;rcases Z with h|h|h<;>simp[h])
 refine⟨cs[i],R,ks[i],a,o1,E i _ _ _ M hx Y,⟨F,by omega,λh' X=>⟨Hp.sub_rds (Hp.sub_trans (mem (Go.Eng.ob k.b (ZBP k S z) 43) (by simp)) X) (ZBI (i:=3) rfl),?_⟩⟩,λh' c' l' x o' w'=>?_⟩
 .obtain ⟨y,hr,rfl⟩:=ZQ (cd:=cP) (K:=λy=>y=ks[i]) H.row (Hp.sub_trans (mem dK (by simp)) X) rfl F M (m:=(i:Int).toNat*1) rfl rfl;exact hr
 .obtain ⟨D',o2,o3⟩:=L h' _ l' o';have e:(S.books.set i x).length=S.books.length:=Xp;refine⟨D',o2,z,os,dB,dK,dO,cF,cQ,O,cD,V,cT,ks,cs.set i c',o3,wB,H,wo,wF,wQ,?_,wD,?_,wT,ZFV.set ⟨w,I,E⟩ M w'⟩
  .show ZMS k.pa (S.books.set i x).length n O;rw[e];exact wA
  .show ZZf k.pp _ (S.books.set i x).length V;rw[e];exact wO
theorem ZJn{R:Hp}{q:Option Addr}{a:Addr}(H:k.sk.a=some a/\k.sk.len=N/\∀ h',R.sub h'->h'.rds ⟨k.b,3,none⟩ [sv k.sk]/\h'.rds (a.add ((i:Int).toNat*1)) [vp q])(F:R.sub h)(O:i<N){K:Sl->Addr->Option Addr->Prop}(E:K k.sk a q):
 ZC cSl ⟨k.b,3,none⟩ h λs=>Zb s.a s.len (i:Int) λa=>ZC cP (a.add ((i:Int).toNat*1)) h (K s a):=by
 obtain⟨w,M,D⟩:=H;obtain⟨I,L⟩:=D h F;refine⟨k.sk,I,Xb i,by omega,?_⟩;rw[w];exact⟨q,L,E⟩
theorem ZDj{R:Hp}{q:Option Addr}{a:Addr}(E:k.sk.a=some a/\k.sk.len=N/\∀ h',R.sub h'->h'.rds ⟨k.b,3,none⟩ [sv k.sk]/\h'.rds (a.add ((i:Int).toNat*1)) [vp q])(D:R.sub h)(F:i<N){K:Option Addr->Prop}(w:K q):
 ZC cSl ⟨k.b,3,none⟩ h λs=>Zb s.a s.len (i:Int) λa=>ZC cP (a.add ((i:Int).toNat*1)) h K:=
 ZJn (K:=λ_ _=>K) E D F w
theorem Zr.bk(a:Zr k S n m h l){K:Sl->Prop}(w:∀ s:Sl,s.len=S.books.length->K s):ZC cSl ⟨k.b,3,none⟩ h K:=by obtain⟨D,o,z,os,dB,dK,X,cF,O,I,L,M,V,ks,cs,E,Z,F,wo,wF,wQ,Y,wD,wO,wT,H⟩:=a;exact ZK (cd:=cSl) (x:=k.sk) (Hp.sub_trans (E.get (i:=0) rfl) (o.mem (by simp))) (i:=3) rfl (w _ (by rw[F.1,H.1]))
theorem Zr.bd(a:Zr k S n m h l){K:Sl->Prop}(H:∀ (s:Sl) (d:Hp),d.sub h->Own Zs d s S.bonds->K s):ZC cSl ⟨k.b,0,none⟩ h K:=by obtain⟨D,o,z,os,dB,dK,Y,cF,V,L,M,O,X,ks,cs,F,I,w⟩:=a;have E:D.sub h:=o.mem (by simp);exact ZK (cd:=cSl) (x:=k.sb) (Hp.sub_trans (F.get (i:=0) rfl) E) (i:=0) rfl (H _ dB (Hp.sub_trans (F.mem (by simp)) E) I)
theorem Zr.bond(a:Zr k S n m h l){x:Bond}(w:S.bonds[i]?=some x){K:Bond->Prop}(E:K x):ZC cSl ⟨k.b,0,none⟩ h λs=>Zb s.a s.len (i:Int) λa=>ZC Zs (a.add ((i:Int).toNat*7)) h K:=
 a.bd λs d H D=>ZN D.row (Xb i) (by have:=(Xi.1 w).1;omega) λa F=>ZQ D.row H rfl F w rfl E
theorem Zr.halted(a:Zr k S n m h l){x:Bond}(E:S.bonds[i]?=some x){K:Bool->Prop}(F:K x.Halted):ZC cSl ⟨k.b,0,none⟩ h λs=>Zb s.a s.len (i:Int) λa=>ZC cB ⟨(a.add ((i:Int).toNat*7)).block,(a.add ((i:Int).toNat*7)).off+6,none⟩ h K:=
 a.bd λs d H w=>ZN w.row (Xb i) (by have:=(Xi.1 E).1;omega) λa D=>by rw[w.part_at D];exact Zd (cd:=Zs) (cf:=cB) w.row H rfl D E rfl (k:=6) (y:=x.Halted) rfl F
section
variable {id:Int}
theorem ZMF(a:Zr k S n m h l)(H:n<=999999){Q:Ask×Bool->Hp->Prop}(E:∀ (x:Ask) (D:Bool),(D=true\/x.State≠0->0<=x.Bond/\x.Bond<(S.books.length:Int))->Q (x,D) h):cx 93 [vp k.pa,vi id] (ZV [Zx,cB]) h Q:=by obtain⟨c,R,o,w,F⟩:=a.asks;exact ZVV (o.mem (by simp)) w (by omega) E
theorem ZbO{st:Int}(a:Zr k S n m h l)(F:n<=999999)(E:∀ r h',Zr k S n m h' l->Q r h'):cx 164 [vp k.pa,vi id,vi st] ci h Q:=by obtain⟨c,R,o,w,D⟩:=a.asks;exact ZWY o w (by omega) λr c' h' o' w'=>E r h' (D _ _ _ _ (Xc _) o' w')
theorem ZZ0(a:Zr k S n m h l)(F:n<=999999)(E:∀ r h',Zr k S n m h' l->Q r h'):cx 166 [vp k.pa,vi id] ci h Q:=by obtain⟨c,R,o,w,D⟩:=a.asks;exact ZSe o w (by omega) λr c' h' o' w'=>E r h' (D _ _ _ _ (Xc _) o' w')
theorem ZaB{u:Int}(a:Zr k S n m h l)(F:n<=999999)(E:∀ r h',Zr k S n m h' l->Q r h'):cx 249 [vp k.pa,vi id,vi q,vi u] ci h Q:=by obtain⟨c,R,o,w,D⟩:=a.asks;exact ZT8 o w (by omega) λr c' h' o' w'=>E r h' (D _ _ _ _ (Xc _) o' w')
theorem ZcA{x:Ask}(a:Zr k S n m h l)(E:n<=999999)(H:0<=x.Bond/\x.Bond<S.books.length)(F:∀ r h',Zr k S (n+1) m h' l->Q r h'):cx 241 [vp k.pa,Zx.enc x] ci h Q:=by obtain⟨c,R,o,w,D⟩:=a.asks;exact ZVh (x:=x) o w E H λr c' h' o' w'=>F r h' (D _ _ _ _ (Ws _) o' w')
theorem ZYl(a:Zr k S n m h l)(F:n<=999999){Q:Za×Bool->Hp->Prop}(D:∀ r,Q r h):cx 245 [vp k.pq,vi id] (ZV [ZP,cB]) h Q:=by obtain⟨c,R,o,w,E⟩:=a.quotes;exact ZOY (o.mem (by simp)) w (by omega) D
theorem ZR8(a:Zr k S n m h l)(F:n<=999999){Q:Bool->Hp->Prop}(E:∀ r h',Zr k S n m h' l->Q r h'):cx 96 [vp k.pq,vi id] cB h Q:=by obtain⟨c,R,o,w,D⟩:=a.quotes;exact ZIa o w (by omega) λr c' h' o' w'=>E r h' (D _ _ _ _ (Xc _) o' w')
theorem ZZ2(a:Zr k S n m h l)(F:n<=999999)(E:∀ r h',Zr k S n m h' l->Q r h'):cx 246 [vp k.pq,vi id,vi who] ci h Q:=by obtain⟨c,R,o,w,D⟩:=a.quotes;exact ZRj o w (by omega) λr c' h' o' w'=>E r h' (D _ _ _ _ (Xc _) o' w')
theorem ZcH{x:Za}(a:Zr k S n m h l)(E:n<=999999){Q:Int×Int->Hp->Prop}(F:∀ r h',Zr k S (n+1) m h' l->Q r h'):cx 244 [vp k.pq,ZP.enc x] (ZV [ci,ci]) h Q:=by obtain⟨c,R,o,w,D⟩:=a.quotes;exact ZWv (x:=x) o w E λr c' h' o' w'=>F r h' (D _ _ _ _ (Ws _) o' w')
theorem ZGy(a:Zr k S n m h l)(F:n<=999999){Q:Bool->Hp->Prop}(E:∀ r h',Zr k S n m h' l->Q r h'):cx 99 [vp k.pd,vi kind,vi id] cB h Q:=by obtain⟨c,R,o,w,D⟩:=a.dues;exact ZRt o w (by omega) λr c' h' o' w'=>E r h' (D _ _ _ _ (Xc _) o' w')
theorem ZXk{x:Due}(a:Zr k S n m h l)(E:n<=999999){Q:Bool->Hp->Prop}(F:∀ r h',Zr k S (n+1) m h' l->Q r h'):cx 242 [vp k.pd,ZAs.enc x] cB h Q:=by obtain⟨c,R,o,w,D⟩:=a.dues;exact ZWc (x:=x) o w E λr c' h' o' w'=>F r h' (D _ _ _ _ (Ws _) o' w')
end
end
variable {k:RK}{Q:PUnit->Hp->Prop}{m:Nat}
theorem ZCa(M:vs=ZO ci ns)(K:N=ns.length)(a:Zr k S n m h l)(hm:m<=999999)(L:∀ h',Zr k S n (m+1) h' l->Q ⟨⟩ h'):
 ZJ (.cells vs.toArray 2) h λk1 E=>cx 91 [vp (sj k.b),vi to,vi kind,Value.slice (sj k1) N N] (ZV []) E Q:=by
 obtain⟨z,os,d,R,o,w,hl,H⟩:=a.outs;refine ZH o λk1 E D=>c91 (s:=⟨sj k1,N,N⟩) ?_;dsimp only[ZM];refine ZL (cd:=cSl) (x:=z.so) D 1 (i:=14) rfl rfl ?_;refine ZGm (p:=⟨sj k1,N,N⟩) (D.get (i:=0) rfl) (Zk (cd:=ci) (xs:=ns) M K) ?_;generalize mkM kind _=x;refine⟨⟨Hp.sub_rds (D.get (i:=1) rfl) (ZBI (i:=14) rfl),trivial⟩,ZH D λk2 Y o2=>?_⟩;refine ZBW (x:=(⟨to,x.Kind,x.F_0,x.F_1,x.F_2,x.F_3,x.F_4,x.F_5⟩:Out)) (o2.pick [0,3,2,4] 5) w rfl (by decide) (by decide) (by omega) λI q r t Z O X=>?_;refine ZX (cd:=cSl) (i:=14) (x:=⟨q,r,t⟩) (vs':=ZBP k S {z with so:=⟨q,r,t⟩}) O.swap rfl rfl (by show 14+1<=15;omega) λF V=>?_;exact L F (H F l ⟨q,r,t⟩ I _ (m+1) V X (by simp;omega))
theorem ZXI{t:Z2}(a:Zr k S n m h l)(hp:1<=S.parties.length)(hn:n<=999999)(hm:m<=999990)(hq:∀ h',Zr k S (n+1) (m+2) h' l->Q ⟨⟩ h'):cx 254 [vp (sj k.b),Zl.enc t] (ZV []) h Q:=by refine c254 (d:=t) ?_;obtain⟨D,o,z,os,dB,dK,M,cF,I,F,H,cO,cT,ks,cs,oc,wB,wK,⟨wo,hl⟩,wF,wQ,wA,wD,wO,wT,wb⟩:=a;have O:=o.split oc;dsimp only[ZM];refine ZL (cd:=ci) (x:=z.now) O 0 (i:=2) rfl rfl (ZL (cd:=cP) (x:=k.pp) O 0 (i:=8) rfl rfl ?_);refine ZWX (x:={t with Tick:=z.now}) (O.at' 8 rfl) wO hp λr w h1 K ab=>?_;have K:On h1 ((ob k.b (ZBP k S z) 43::dB::dK::M::cF::I::F::H::w::cT::cs)++l):=K.back' (by simp);refine ZL (cd:=cSl) (x:=z.so) K 0 (i:=14) rfl rfl (ZL (cd:=cP) (x:=k.pt) K 0 (i:=9) rfl rfl ?_);refine ZVb (x:={t with Tick:=z.now}) (K.at' 9 rfl) wT hn λt2 E h2 o2 ac=>?_;have o2:On h2 ((ob k.b (ZBP k S z) 43::dB::dK::M::cF::I::F::H::w::E::cs)++l):=o2.back' (by simp);refine⟨⟨Hp.sub_rds (o2.get (i:=0) rfl) (ZBI (i:=14) rfl),trivial⟩,ZU4 (x:=t2) o2 λs5 d5 Y h3 o3 w5 hl5=>?_⟩;refine⟨⟨Hp.sub_rds (o3.get (i:=1) rfl) (ZBI (i:=14) rfl),trivial⟩,?_⟩;have o4:On h3 (M::d5::ob k.b (ZBP k S z) 43::dB::dK::cF::I::F::H::w::E::(cs++l)):=o3.pick [4,0,1,2,3] 5;refine ZW (g:=d5) (s:=z.so) (t:=s5) (ys:=Y) o4 rfl wo (by decide) w5.row (o4.mem (by simp)) (XG (Xr _ (show _<=1000000 by omega)) (by decide)) λL q r Z h6 o6 w6=>?_;have o7:On h6 (ob k.b (ZBP k S z) 43::L::dB::dK::cF::I::F::H::w::E::(cs++l)):=o6.pick [2,0] 3;refine ZX (cd:=cSl) (i:=14) (x:=⟨q,r,Z⟩) (vs':=ZBP k S {z with so:=⟨q,r,Z⟩}) o7 rfl rfl (by show 14+1<=15;omega) λh8 o8=>?_;have o9:On h8 ((ob k.b (ZBP k S {z with so:=⟨q,r,Z⟩}) 43::dB::dK::L::cF::I::F::H::w::E::cs)++l):=o8.pick [0,2,3,1] 4;obtain⟨V,X⟩:=On.joined o9;exact hq h8 ⟨_,V,_,_,dB,dK,L,cF,I,F,H,w,E,ks,cs,X,wB,wK,⟨w6,by rw[Xg];omega⟩,wF,wQ.mono (by omega),wA.mono (by omega),wD.mono (by omega),ab,ac,wb⟩
theorem ZXK{id:Int}(a:Zr k S n m h l)(F:n<=999999)(Z:∀ h',Zr k S n m h' l->Q ⟨⟩ h'):cx 165 [vp (sj k.b),vi id] (ZV []) h Q:=by
 refine c165 ?_;dsimp only[ZM];refine a.ld (cd:=cP) (i:=5) λz=>⟨k.pq,rfl,?_⟩
 obtain⟨c,R,o,w,M⟩:=a.quotes;refine ZP4 o w (by omega) λs d ys c2 I o2 H hy w2=>?_;have L:Zr k S n m I (d::l):=M I c2 (d::l) n (Xc _) (o2.pick [0,2,1] 3) w2;have K:=H.1;refine Zc (λq h'=>∃ i:Nat,q=(i:Int)/\i<=ys.length/\Zr k S n m h' (d::l)) (λq=>ys.length-q.toNat) ⟨0,rfl,Xh _,L⟩ ?_;rintro J q h3 D ⟨i,rfl,hi,a3⟩
 refine ZG (λY=>?_) λ_=>?_
 .have E:i<ys.length:=by omega
  refine ZN H.row (Xb i) (by omega) λa X=>a3.ld (cd:=cP) (i:=7) λz=>⟨k.pd,rfl,ZQ H.row (a3.sub (by simp)) rfl X (i:=i) (Xa E) rfl ?_⟩
  refine ZGy a3 F λr O a4=>?_;rw[Z1 (by omega)];exact D _ _ ⟨i+1,rfl,by omega,a4⟩ (by omega)
 .refine a3.ld (cd:=cP) (i:=7) λz=>⟨k.pd,rfl,ZGy a3 F λr O a4=>a4.ld (cd:=cP) (i:=7) λz=>⟨k.pd,rfl,ZGy a4 F λr V a5=>Z V a5.drop⟩⟩
theorem ZYn{x:Ask}(a:Zr k S n m h l)(w:n<=999999)(F:m<=999999)(H:∀ h',Zr k S n (m+1) h' l->Q ⟨⟩ h'):cx 94 [vp (sj k.b),Zx.enc x] (ZV []) h Q:=by refine c94 (d:=x) ?_;dsimp only[ZM];exact a.ld (cd:=cP) (i:=6) λz=>⟨k.pa,rfl,ZbO a w λr I D=>ZXK D w λK a3=>ZCa (ns:=[x.ID]) rfl rfl a3 F λE a4=>H E a4⟩
theorem Zau{x:Ask}(a:Zr k S n m h l)(w:n<=999999)(F:m<=999999)(H:∀ h',Zr k S n (m+1) h' l->Q ⟨⟩ h'):cx 95 [vp (sj k.b),Zx.enc x] (ZV []) h Q:=by
 refine c95 (d:=x) ?_;dsimp only[ZM];refine a.ld (cd:=cP) (i:=5) λz=>⟨k.pq,rfl,ZR8 a w λr K D=>D.ld (cd:=cP) (i:=7) λz=>⟨k.pd,rfl,ZGy D w λr L a3=>a3.ld (cd:=cP) (i:=7) λz=>⟨k.pd,rfl,ZGy a3 w λr M a4=>a4.ld (cd:=ci) (i:=2) λz=>⟨z.now,rfl,ZD (λ_=>ZYn (x:=x) a4 w F λE a5=>H E a5) λ_=>?_⟩⟩⟩⟩
 exact a4.ld (cd:=cP) (i:=6) λz=>⟨k.pa,rfl,ZZ0 a4 w λr E a5=>ZCa (ns:=[x.ID,x.Hit]) rfl rfl a5 F λI a6=>H I a6⟩
theorem ZS8{id:Int}(a:Zr k S n m h l)(D:n<=999999){Q:Ask×Za×Int->Hp->Prop}(w:∀ (x:Ask) (y:Za) (e:Int),(e=0->0<=x.Bond/\x.Bond<(S.books.length:Int))->Q (x,y,e) h):cx 252 [vp (sj k.b),vi who,vi id] (ZV [Zx,ZP,ci]) h Q:=by
 refine c252 ?_;dsimp only[ZM];refine a.ld (cd:=cP) (i:=6) λz=>⟨k.pa,rfl,ZMF a D λx H F=>a.ld (cd:=cP) (i:=5) λz=>⟨k.pq,rfl,ZYl a D λy=>?_⟩⟩
 refine ZD (λ_=>w _ _ _ λe=>by cases e) λE=>ZD (λ_=>w _ _ _ λe=>by cases e) λ_=>ZD (λ_=>w _ _ _ λe=>by cases e) λ_=>w _ _ _ λ_=>F (.inl (by simpa using E))
theorem ZcV{bond:Int}{fs:List ZIo}(a:Zr k S n m h l)(hp:1<=S.parties.length)(hn:n<=900000)(hm:m<=900000)(h1:d1∈l)(V:d2∈l)(O:Own ZCX d1 s1 fs)(F:Own ZEz d2 s2 gs)(l1:fs.length<=65)(l2:gs.length<=65)(Y:∀ h',Zr k S (n+65) (m+400) h' l->Q ⟨⟩ h'):cx 237 [vp (sj k.b),vi who,ZF.enc x,vi bond,vi how,Value.slice s1.a s1.len s1.cap,Value.slice s2.a s2.len s2.cap,vi left] (ZV []) h Q:=by
 refine c237 (d:=x) (s:=s1) (t:=s2) ?_;have g1:=O.1;have g2:=F.1;refine Zc (λq h'=>∃ i:Nat,q=(i:Int)/\i<=gs.length/\Zr k S n (m+i) h' l) (λq=>gs.length-q.toNat) ⟨0,rfl,Xh _,a⟩ ?_;rintro J q h3 w ⟨i,rfl,hi,a3⟩
 refine ZG (λM=>?_) λ_=>?_
 .have E:i<gs.length:=by omega
  have a0:gs[i]?=some gs[i]:=Xa E;refine ZN F.row (Xb i) (by omega) λa L=>ZN F.row (Xb i) (by omega) λa2 I=>?_;rw[F.part_at I];refine Zd (cd:=ZEz) (cf:=ci) F.row (a3.sub V) rfl L (i:=i) a0 rfl (k:=0) (y:=gs[i].ID) rfl (Zd (cd:=ZEz) (cf:=ci) F.row (a3.sub V) rfl I (i:=i) a0 rfl (k:=2) (y:=gs[i].Left) rfl ?_);refine ZCa (ns:=[gs[i].ID,gs[i].Left]) rfl rfl a3 (by omega) λX a4=>?_;rw[Z1 (by omega)];exact w _ _ ⟨i+1,rfl,by omega,a4.mono (Xc _) (by omega)⟩ (by omega)
 .have a3:=a3.mono (n':=n) (m':=m+65) (Xc _) (by omega);refine Zc (λz h'=>∃ i:Nat,z.2=(i:Int)/\i<=fs.length/\Zr k S (n+i) (m+65+4*i) h' l) (λz=>fs.length-z.2.toNat) ⟨0,rfl,Xh _,a3⟩ ?_;rintro J2 ⟨rest,zi⟩ X again2 ⟨i,hzi,hi,a4⟩;dsimp only at hzi;subst hzi;dsimp only;refine ZG (λM=>?_) λ_=>?_
  .have E:i<fs.length:=by omega
   refine ZN O.row (Xb i) (by omega) λa L=>ZQ O.row (a4.sub h1) rfl L (i:=i) (Xa E) rfl ?_;generalize fs[i]=f;refine ZCa (ns:=[f.Maker,f.Price,f.Qty,f.Left]) rfl rfl a4 (by omega) λh5 a5=>ZCa (ns:=[x.ID,f.Price,f.Qty,i64.wrap (rest-f.Qty)]) rfl rfl a5 (by omega) λK a6=>?_;refine ZI (λ_ h'=>h'=K) ?_ λJ3 H=>ZD (λ_=>H _ _ rfl) λ_=>H _ _ rfl;rintro t h7 rfl;refine ZXI (t:=t) a6 hp (by omega) (by omega) λh8 Z=>?_;rw[Z1 (by omega)];exact again2 _ _ ⟨i+1,rfl,by omega,Z.mono (by omega) (by omega)⟩ (by dsimp only;omega)
  .have a5:=a4.mono (n':=n+65) (m':=m+399) (by omega) (by omega);refine ZI (λ_ h'=>h'=X) ?_ λJ4 D=>ZD (λ_=>ZD (λ_=>D _ _ rfl) λ_=>D _ _ rfl) λ_=>D _ _ rfl;rintro t h5 rfl;exact ZD (λ_=>ZCa (ns:=[x.ID,left]) rfl rfl a5 (by omega) λK a6=>Y K a6) λ_=>Y _ (a5.mono (Xc _) (by omega))
end Go.Proofs.YtkmniidiifpdgaaGreat
