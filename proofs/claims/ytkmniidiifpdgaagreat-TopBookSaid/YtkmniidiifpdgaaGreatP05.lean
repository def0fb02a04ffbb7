/- Made by program: of our texts what this law needs (TopL TopM TopN TopO ModB TopP TopQ ModC TopR TopT TopU TopV TopW TopX TopY TopZ TopAA TopAB TopAC LineT TopAD TopAE TopAF ModD TopAG TopAH TopAI TopAJ ModE ModF ModG ModH ModI ModJ ModK ModL ModM ModN). -/
import Derived.Test.YtkmniidiifpdgaaGreatP04
set_option linter.unusedVariables false
namespace Go.Proofs.YtkmniidiifpdgaaGreat
open Go.Eng
open IntKind (i64 u64 u8)
abbrev XK:=@List.mem_or_eq_of_mem_set
abbrev Wp:=@List.eq_of_mem_replicate
abbrev WZ:=@List.getElem?_set_ne
abbrev Yi:=@Int.le_refl
abbrev Yq:=@List.mem_of_find?_eq_some
abbrev YA:=@List.perm_append_comm_assoc
abbrev YM:=@List.length_zipWith
abbrev VP:=@List.map_set
abbrev VQ:=@List.filter_eq_nil_iff
abbrev VT:=@List.find?_some
abbrev VW:=@List.replicate_succ'
variable {n beat price qty a b who bond v s to kind w0 other how m' u w is kd seq:Int}{e:TypeId}{sb sp s1 s2 sl s4:Sl}{gb gp h d1 d2 c g d D C cb R dk dm:Hp}{bs:List (List ZE)}{Q:Int×Bool->Hp->Prop}{m i N N' k1 lost A B A' B':Nat}{rows:List Sl}{ds l cs l':List Hp}{cash ns us held:List Int}{K:Nat->Hp->Prop}{t:Z2}{xs:List Ask}{ls:List ZCg}{x o:ZE}{qs:List Za}{ps:List (Option Addr)}{vs:List Value}{α:Type}{f:Ask->Ask}{q:Za}{outs os:List Out}{out:List (List Int)}{dn ys:List Bool}{P:Int->Prop}
theorem ZMP:∀ n:Nat,Z0 n [vi 0]=ZO ci (List.replicate n 0)
 | 0=>rfl
 | n+1=>by show vi 0::Z0 n [vi 0]=vi 0::ZO ci (List.replicate n 0);rw[ZMP n]
theorem ZIL{k n:Nat}:Own ci (ob k (Z0 n [vi 0]) e) ⟨sj k,n,n⟩ (List.replicate n 0):=
 ZAx (rest:=[]) (by rw[ZMP,Wl]) (by simp) (by simp)
section
variable {p:Option Addr}{ps:List Z8}{us:List Int}{c h:Hp}{l:List Hp}{who:Int}
theorem ZPx{sb sp:Sl}{gb gp:Hp}{bs:List Bond}{look beat:Int}(o:On h l)(M:gb∈l)(rb:Row Zs gb sb bs)(z:gp∈l)(r:Row Zu gp sp ps)(H:bs.length<=1000)(I:ps.length<=1000){Q:Option Addr->Hp->Prop}(V:ZDH bs ps look beat=true)(W:∀ p c h',On h' (c::l)->ZC3 p ps (List.replicate ps.length 0) c->Q p h'):
 cx 33 [ZAK.enc ⟨sb,sp,look,beat⟩] cP h Q:=by
 refine c33 (d:=⟨sb,sp,look,beat⟩) ?_;have O:=r.1;refine ZPp o M rb z r H I λh3 Y=>?_;rw[V];refine ZU rfl ?_;dsimp only;refine ZLp Y (g:=gp) z r (by omega) λs4 y h4 Z w4=>?_;refine⟨by omega,by omega,by omega,by omega,?_⟩;refine ZH Z λj h5 F=>?_;refine ZH F λE L G=>?_;have e:((sp.len:Int)).toNat=ps.length:=by omega
 rw[e]at F G;obtain⟨o7,o8⟩:=On.joined (cs:=[ob E [sv s4,Value.slice (sj j) ps.length ps.length] 170,y,ob j (Z0 ps.length [vi 0]) 2]) (l:=l) (G.perm ((Xt _ _ _).cons _));refine W _ _ L o7 ⟨E,s4,⟨sj j,ps.length,ps.length⟩,y,_,rfl,o8,w4,ZIL,by simp,λu X=>?_⟩;have:=Wp X;omega
theorem ZYE{price qty:Int}(y:c.sub h)(w:ZC3 p ps us c)(j:price<=1000000)(r:qty<=1000000){Q:Int->Hp->Prop}(z:Q (ZE1 ps us who price qty).2 h):
 cx 286 [vp p,vi who,vi price,vi qty] ci h Q:=by
 refine c286 ?_;exact ZSS y w j r z
theorem ZQG{price qty:Int}(w:ZC3 p ps us c)(j:(ZE1 ps us who price qty).2=0):0<=who/\who<ps.length/\0<=(ZE1 ps us who price qty).1/\(ZE1 ps us who price qty).1<=9223372036854775807:=by
 obtain⟨b,s1,s2,d1,d2,rfl,V,W,X,M,I⟩:=w;unfold ZE1 at j⊢;cases z:ZDK ps who with
 | none=>rw[z]at j;cases j
 | some x=>
   rw[z]at j;obtain⟨F,y,O⟩:=ZHQ z;dsimp only at j⊢;have r:who.toNat<us.length:=by omega
   have E:(us[who.toNat]?).getD 0=us[who.toNat]:=by rw[Xa r];rfl
   have L:=I us[who.toNat] (Xs r);rw[E]at j⊢;refine⟨F,y,?_⟩;by_cases c1:x.Role≠2
   .rw [Xe c1]at j;cases j
   ·rw[Xd c1]at j⊢;by_cases c2:price<1\/qty<1
    .rw [Xe c2]at j;cases j
    ·rw[Xd c2]at j⊢;by_cases c3:(ZMN us[who.toNat] (price*qty)).2=false
     .rw [Xe c3]at j;cases j
     .rw [Xd c3]at j⊢;by_cases c4:x.Cap<(ZMN us[who.toNat] (price*qty)).1
      .rw [Xe c4]at j;cases j
      .rw [Xd c4];have H:0<=price*qty:=YZ (by omega) (by omega);unfold ZMN at c3⊢;split at c3
       .exact absurd rfl c3
       .rename_i G;rw[Xd G];dsimp only;omega
theorem ZZ8{price qty:Int}(o:On h (c::l))(w:ZC3 p ps us c)(I:price<=1000000)(L:qty<=1000000){Q:Int->Hp->Prop}(j:∀ F h',On h' (F::l)->ZC3 p ps (ZL4 ps us who price qty).1 F->Q (ZL4 ps us who price qty).2 h'):
 cx 216 [vp p,vi who,vi price,vi qty] ci h Q:=by
 refine c216 ?_;refine ZSS (o.mem (by simp)) w I L ?_;unfold ZL4 at j;refine ZD (λe=>?_) λe=>?_
 .have e:(ZE1 ps us who price qty).2=0:=by simpa using e
  rw[Xe e]at j;rw[e];obtain⟨r,W,y,z⟩:=ZQG w e;obtain⟨b,s1,s2,d1,d2,rfl,oc,w1,H,X,V⟩:=w;have G:=o.split oc;dsimp only[ZM];refine ZL (x:=s2) G 0 (i:=1) rfl rfl ?_;refine ZN H.row r (by omega) λa O=>?_;refine ZA4 (cd:=ci) (xs:=us) (c:=d2) (l:=ob b [sv s1,sv s2] 170::d1::l) (G.rot3) rfl H O (i:=who.toNat) (by omega) rfl λc3 M Y w3=>?_;obtain⟨Z,o5⟩:=On.joined (cs:=[ob b [sv s1,sv s2] 170,d1,c3]) (l:=l) (Y.perm ((Xt _ _ _).trans ((Xt _ _ _).cons _)));refine j _ M Z ⟨b,s1,s2,d1,c3,rfl,o5,w1,w3,by rw[Xp];exact X,λu E=>?_⟩;rcases XK E with h|h
  .exact V u h
  .subst h;exact⟨y,z⟩
 .have e:¬(ZE1 ps us who price qty).2=0:=by simpa using e
  rw[Xd e]at j;exact j c h o w
end
theorem ZSO{Q:ZBL×Bool->Hp->Prop}(r:∀ z,Q z h):cx 332 [vi a,vi b] (ZV [Zm,cB]) h Q:=by refine c332 ?_;refine ZI (λt h'=>h'=h) ?_ λJ j=>ZD (λ_=>j _ _ rfl) λ_=>j _ _ rfl;rintro t h' rfl;refine ZD (λ_=>r _) λ_=>?_;refine c364 ?_;exact⟨by decide,by decide,by decide,by decide,by decide,r _⟩
theorem ZPo{a:ZBL}(r:∀ z,Q z h):cx 334 [Zm.enc a] (ZV [ci,cB]) h Q:=by refine c334 ?_;refine ZI (λt h'=>h'=h) ?_ λJ j=>ZD (λ_=>j _ _ rfl) λ_=>j _ _ rfl;rintro t h' rfl;exact ZD (λ_=>r _) λ_=>r _
theorem ZJe(r:∀ z,Q z h):cx 335 [vi a,vi b] (ZV [ci,cB]) h Q:=by
 refine c335 ?_;refine ZI (λt h'=>h'=h) ?_ λJ j=>?_
 .rintro t h' rfl;exact ZD (λ_=>r _) λ_=>r _
 .exact ZD (λ_=>ZD (λ_=>j _ _ rfl) λ_=>ZD (λ_=>j _ _ rfl) λ_=>j _ _ rfl) λ_=>ZD (λ_=>j _ _ rfl) λ_=>j _ _ rfl
theorem ZI8(r:∀ z,Q z h):cx 337 [vi a,vi b] (ZV [ci,cB]) h Q:=by
 refine c337 ?_;refine ZI (λt h'=>h'=h) ?_ λJ j=>?_
 .rintro t h' rfl;exact ZD (λ_=>r _) λ_=>r _
 .exact ZD (λ_=>ZD (λ_=>j _ _ rfl) λ_=>ZD (λ_=>j _ _ rfl) λ_=>j _ _ rfl) λ_=>ZD (λ_=>j _ _ rfl) λ_=>j _ _ rfl
def ZQo(m:Nat)(sl:Sl)(d:Hp):Prop:=∃ xs:List Int,Own ci d sl xs/\xs.length=m
def ZJu(p:Option Addr)(c:Hp):Prop:=
 ∃ (b:Nat) (s1 s2:Sl) (d1 d2:Hp) (rows:List Sl) (cash:List Int) (ds:List Hp) (m:Nat),p=sj b/\On c (ds++[ob b [sv s1,sv s2] 179,d1,d2])/\Own cSl d1 s1 rows/\Own ci d2 s2 cash/\cash.length=rows.length/\ZDE (ZQo m) rows ds
theorem ZQo.row(w:ZDE (ZQo m) rows ds)(j:i<rows.length):∃ sl d xs,rows[i]?=some sl/\ds[i]?=some d/\Own ci d sl xs/\xs.length=m:=by obtain⟨d,r,xs,y⟩:=w.get i rows[i] (Xa j);exact⟨rows[i],d,xs,Xa j,r,y⟩
theorem ZDE.setr{α β:Type}{R:α->β->Prop}:∀ {l:List α} {m:List β},ZDE R l m->∀ (i:Nat) (a:α) (b:β),l[i]?=some a->R a b->ZDE R l (m.set i b)
 | [],[],_,_,_,_,h,_=>by cases h
 | x::l,y::m,h,0,a,b,ha,hab=>by
   cases ha;exact⟨hab,h.2⟩
 | x::l,y::m,h,i+1,a,b,ha,hab=>⟨h.1,ZDE.setr h.2 i a b ha hab⟩
 | [],_::_,h,_,_,_,_,_=>h.elim
 | _::_,[],h,_,_,_,_,_=>h.elim
variable {b:Nat}
theorem ZOp(o:On h (ds++(ob b [sv s1,sv s2] 179::d1::d2::l)))(E:Own cSl d1 s1 rows)(M:Own ci d2 s2 cash)(X:cash.length=rows.length)(O:ZDE (ZQo m) rows ds){Q:Bool->Hp->Prop}(r:∀ t:Bool,(t=true->0<=who/\who<rows.length/\0<=bond/\bond<m)->Q t h):cx 336 [vp (sj b),vi who,vi bond] cB h Q:=by
 refine c336 ?_;have I:=E.1;have L:=M.1;have j:(ob b [sv s1,sv s2] 179).sub h:=o.mem (by simp);have y:d1.sub h:=o.mem (by simp);refine Zf rfl (ZG (λF=>?_) λ_=>r _ (by simp));dsimp only[ZM];refine ZK (cd:=cSl) (x:=s2) j (i:=1) rfl ?_;refine ZG (λW=>ZG (λG=>?_) λ_=>r _ (by simp)) λ_=>r _ (by simp);obtain⟨sl,d,xs,z,Y,V,Z⟩:=ZQo.row O (i:=who.toNat) (by omega);refine ZK (cd:=cSl) (x:=s1) j (i:=0) rfl ?_;refine ZN E.row F (by omega) λa H=>ZQ E.row y rfl H (i:=who.toNat) z rfl ?_;have:=V.1;refine r _ λe=>?_;have e:bond<(sl.len:Int):=by simpa using e
 exact⟨F,by omega,G,by omega⟩
theorem ZI3(o:On h (ds++l))(z:ZDE (ZQo m) rows ds)(r:rows[i]?=some sl)(F:0<=n)(X:n<m){K:Hp->Prop}(L:∀ ds' h',On h' (ds'++l)->ZDE (ZQo m) rows ds'->K h'):
 Zb sl.a sl.len n λa=>ZS ci (a.add (n.toNat*1)) v h K:=by
 have y:=(Xi.1 r).1;obtain⟨V,d,xs,j,I,E,M⟩:=ZQo.row z y;rw[r]at j;cases j;refine ZN E.row F (by omega) λa H=>?_;refine ZA4 (cd:=ci) (o.at' i I) rfl E H (i:=n.toNat) (by omega) rfl λc3 G O W=>?_;exact L _ G (O.back' (by have:=z.len;omega)) (ZDE.setr z i sl c3 r ⟨_,W,by rw[Xp];exact M⟩)
variable {Q:Int->Hp->Prop}
theorem ZSq{p:Option Addr}(o:On h (c::l))(w:ZJu p c)(hq:∀ r F h',On h' (F::l)->ZJu p F->Q r h'):cx 292 [vp p,Zl.enc t] ci h Q:=by
 obtain⟨b,s1,s2,d1,d2,rows,cash,ds,m,rfl,oc,E,O,hc,w3⟩:=w;have V:On h (ds++(ob b [sv s1,sv s2] 179::d1::d2::l)):=by have:=o.split oc;rwa[Xu]at this
 have M:∀ {h':Hp} {j:List Hp} {G:Hp} {y:List Int},On h' (j++(ob b [sv s1,sv s2] 179::d1::G::l))->ZDE (ZQo m) rows j->Own ci G s2 y->y.length=rows.length->∃ F,On h' (F::l)/\ZJu (sj b) F:=by intro h' j G y o' w3' w2' hc';obtain⟨o7,o8⟩:=On.joined (cs:=j++[ob b [sv s1,sv s2] 179,d1,G]) (l:=l) (by rw[Xu];exact o');exact⟨_,o7,b,s1,s2,d1,G,rows,y,j,m,rfl,o8,E,w2',hc',w3'⟩
 have hl1:=E.1;have hl2:=O.1;refine c292 ?_;refine ZI (λu h'=>h'=h/\(u=false->(0<=t.Buyer/\t.Buyer<rows.length)/\(0<=t.Seller/\t.Seller<rows.length)/\0<=t.Bond/\t.Bond<m)) ?_ λJ H=>?_
 ·rintro u h' ⟨rfl,hu⟩;refine ZD (λ_=>?_) λe=>?_
  .obtain ⟨F,o',w'⟩:=M V w3 O hc;exact hq _ F h' o' w'
  ·obtain⟨hb,hs,h0,h1⟩:=hu e;have z:(ob b [sv s1,sv s2] 179).sub h':=V.mem (by simp);have W:d1.sub h':=V.mem (by simp);have hd2:d2.sub h':=V.mem (by simp);obtain⟨slb,db,xb,I,hdb,wxb,hxb⟩:=ZQo.row w3 (i:=t.Buyer.toNat) (by omega);obtain⟨sls,dS,xS,L,hdS,wxS,hxS⟩:=ZQo.row w3 (i:=t.Seller.toNat) (by omega);have hsb:db.sub h':=V.mem (by simp[Xn hdb]);have hss:dS.sub h':=V.mem (by simp[Xn hdS]);refine ZSO λz1=>ZPo λz2=>?_;dsimp only[ZM];refine ZK (cd:=cSl) (x:=s1) z (i:=0) rfl ?_;refine ZN E.row hb.1 (by omega) λa2 Y=>ZQ E.row W rfl Y (i:=t.Buyer.toNat) I rfl ?_;refine ZN wxb.row h0 (by omega) λa3 ha3=>ZQ wxb.row hsb rfl ha3 (i:=t.Bond.toNat) (Xa (by omega)) rfl ?_;refine ZJe λz3=>?_;refine ZK (cd:=cSl) (x:=s1) z (i:=0) rfl ?_;refine ZN E.row hs.1 (by omega) λa5 Z=>ZQ E.row W rfl Z (i:=t.Seller.toNat) L rfl ?_;refine ZN wxS.row h0 (by omega) λa6 ha6=>ZQ wxS.row hss rfl ha6 (i:=t.Bond.toNat) (Xa (by omega)) rfl ?_;refine ZI8 λz4=>?_;refine ZK (cd:=cSl) (x:=s2) z (i:=1) rfl ?_;refine ZN O.row hb.1 (by omega) λa8 ha8=>ZQ O.row hd2 rfl ha8 (i:=t.Buyer.toNat) (Xa (by omega)) rfl ?_;refine ZI8 λz5=>?_;refine ZK (cd:=cSl) (x:=s2) z (i:=1) rfl ?_;refine ZN O.row hs.1 (by omega) λa9 ab=>ZQ O.row hd2 rfl ab (i:=t.Seller.toNat) (Xa (by omega)) rfl ?_;refine ZJe λz6=>?_;refine ZI (λu h2=>h2=h') ?_ λJ H=>?_
   ·rintro u h2 rfl;refine ZD (λ_=>?_) λ_=>?_
    .obtain ⟨F,o',w'⟩:=M V w3 O hc;exact hq _ F h2 o' w'
    ·refine ZK (cd:=cSl) (x:=s1) z (i:=0) rfl ?_;refine ZN E.row hb.1 (by omega) λa2 Y=>ZQ E.row W rfl Y (i:=t.Buyer.toNat) I rfl ?_;refine ZK (cd:=cSl) (x:=s1) z (i:=0) rfl ?_;refine ZN E.row hs.1 (by omega) λa5 Z=>ZQ E.row W rfl Z (i:=t.Seller.toNat) L rfl ?_;refine ZI3 V w3 I h0 h1 λds3 h3 o3 w33=>?_;refine ZI3 o3 w33 L h0 h1 λds4 h4 o4 w34=>?_;have X:(ob b [sv s1,sv s2] 179).sub h4:=o4.mem (by simp);refine ZK (cd:=cSl) (x:=s2) X (i:=1) rfl ?_;refine ZK (cd:=cSl) (x:=s2) X (i:=1) rfl ?_
     have pm:∀ (x:Hp) (j:List Hp),(j++(ob b [sv s1,sv s2] 179::d1::x::l)).Perm (x::(j++(ob b [sv s1,sv s2] 179::d1::l))):=λx j=>by
          have e1:j++(ob b [sv s1,sv s2] 179::d1::x::l)=(j++[ob b [sv s1,sv s2] 179,d1])++x::l:=by simp
          have e2:j++(ob b [sv s1,sv s2] 179::d1::l)=(j++[ob b [sv s1,sv s2] 179,d1])++l:=by simp
          rw[e1,e2];exact Wg
     refine ZN O.row hb.1 (by omega) λa9 ab=>?_;refine ZA4 (cd:=ci) (o4.perm (pm d2 ds4)) rfl O ab (i:=t.Buyer.toNat) (by omega) rfl λc5 h5 o5 w5=>?_;refine ZN w5.row hs.1 (by rw[Xp];omega) λa10 ha10=>?_;refine ZA4 (cd:=ci) o5 rfl w5 ha10 (i:=t.Seller.toNat) (by rw[Xp];omega) rfl λc6 h6 o6 w6=>?_;obtain⟨F,o',w'⟩:=M (o6.perm (pm c6 ds4).symm) w34 w6 (by rw[Xp,Xp];exact hc);exact hq _ F h6 o' w'
   .exact ZD (λ_=>H _ _ rfl) λ_=>ZD (λ_=>H _ _ rfl) λ_=>ZD (λ_=>H _ _ rfl) λ_=>ZD (λ_=>H _ _ rfl) λ_=>H _ _ rfl
 .refine ZOp V E O hc w3 λu hu=>?_;refine ZD (λ_=>H _ _ ⟨rfl,by simp⟩) λe1=>?_;have e1:u=true:=by simpa using e1
  refine ZOp V E O hc w3 λv hv=>?_;refine ZD (λ_=>H _ _ ⟨rfl,by simp⟩) λe2=>?_;have e2:v=true:=by simpa using e2
  have hu:=hu e1;have hv:=hv e2;refine ZD (λ_=>H _ _ ⟨rfl,by simp⟩) λ_=>ZD (λ_=>H _ _ ⟨rfl,by simp⟩) λ_=>H _ _ ⟨rfl,λ_=>⟨⟨hu.1,hu.2.1⟩,⟨hv.1,hv.2.1⟩,hu.2.2⟩⟩
theorem ZUG{s:Sl}{bs:List Int}(r:Row (cI .u8) g s bs)(F:g.sub h)(hl:bs.length<=1000000)(I:∀ n,Q n h):cx 339 [Value.int .u64 v,Value.slice s.a s.len s.cap] (cI .u64) h Q:=by
 refine c339 ?_;have y:=r.1;refine Zc (λz h'=>∃ i:Nat,z.2=(i:Int)/\i<=bs.length/\h'=h) (λz=>bs.length-z.2.toNat) ⟨0,rfl,Xh _,rfl⟩ ?_;rintro J ⟨z,L⟩ h' again ⟨i,hzi,hi,rfl⟩
 dsimp only at hzi;subst hzi;dsimp only;refine ZG (λH=>?_) λG=>⟨by decide,I _⟩
 have j:i<bs.length:=by omega
 refine ZN r (Xb i) (by omega) λa E=>ZQ r F rfl E (i:=i) (Xa j) (by rfl) ?_;rw[Z1 (by omega)];exact again _ _ ⟨i+1,rfl,by omega,rfl⟩ (by dsimp only;omega)
def ZCy(t:Z2):Prop:=I64 t.ID/\I64 t.Bond/\I64 t.Buyer/\I64 t.Seller/\I64 t.Price/\I64 t.Qty/\I64 t.Ask/\I64 t.Tick
def ZCx(p:Option Addr)(xs:List Z2)(c:Hp):Prop:=∃ (b:Nat) (sl:Sl) (v:Int) (d:Hp),p=sj b/\On c [ob b [sv sl,Value.int .u64 v] 181,d]/\Own Zl d sl xs
def ZKi(xs:List Z2)(t:Z2):Z2:={t with ID:=((xs.length+1:Nat):Int)}
theorem ZCx.close{xs:List Z2}(o:On h (ob b [sv sl,Value.int .u64 v] 181::d::l))(w:Own Zl d sl xs):∃ c,On h (c::l)/\ZCx (sj b) xs c:=by obtain⟨j,r⟩:=On.joined (cs:=[ob b [sv sl,Value.int .u64 v] 181,d]) (l:=l) o;exact⟨_,j,b,sl,v,d,rfl,r,w⟩
section
variable {p:Option Addr}{xs:List Z2}{c h:Hp}{l:List Hp}
theorem ZYB(o:On h l){Q:Option Addr->Hp->Prop}(r:∀ p c h',On h' (c::l)->ZCx p [] c->Q p h'):cx 40 [] cP h Q:=by refine c40 ?_;unfold F40;refine ZH o λk1 j y=>?_;obtain⟨c,o2,w⟩:=ZCx.close (sl:=⟨none,0,0⟩) (v:=0) (xs:=[]) y.emp.swap (Own.nil _);exact r _ c j o2 w
theorem ZWW(o:On h (c::l))(w:ZCx p xs c)(hl:xs.length<=1000000){Q:Sl->Hp->Prop}(E:∀ s j d h',On h' (j::d::l)->ZCx p xs j->Own Zl d s xs->Q s h'):cx 44 [vp p] cSl h Q:=by obtain⟨b,sl,v,d,rfl,H,z⟩:=w;refine c44 ?_;refine ZU rfl ?_;have y:=o.split H;dsimp only[ZM];refine ZL (x:=sl) y 0 rfl rfl ?_;refine ZRi y (g:=d) (by simp) z.row hl λs d2 r o2 I=>?_;have F:On r (ob b [sv sl,Value.int .u64 v] 181::d::d2::l):=o2.perm ((Xt _ _ _).trans ((Xt _ _ _).cons _));obtain⟨c2,G,L⟩:=ZCx.close F z;exact E s c2 d2 r G L I
theorem ZQ0(o:On h l)(E:ZCy t){Q:Sl->Hp->Prop}(z:∀ s d h' bs,On h' (d::l)->Own (cI .u8) d s bs->bs.length<=1000000->Q s h'):cx 340 [Zl.enc t] cSl h Q:=by
 refine c340 ?_;refine ZH o λk1 y F=>?_;have j:∀ n∈[t.ID,t.Bond,t.Buyer,t.Seller,t.Price,t.Qty,t.Ask,t.Tick],I64 n:=by obtain⟨y,r,H,I,L,M,O,V⟩:=E;intro n j;simp only[Xm,XW,Ye]at j;rcases j with rfl|rfl|rfl|rfl|rfl|rfl|rfl|rfl<;>assumption
 refine ZSv (p0:=⟨sj k1,8,8⟩) (ns:=[t.ID,t.Bond,t.Buyer,t.Seller,t.Price,t.Qty,t.Ask,t.Tick]) F (WQ) (Zk (by rfl) rfl) j (by simp) λs d r o2 G=>?_;refine z s d r _ (o2.sublist (XC _ (Xz _ _))) G ?_;have:=ZFm _ j;simp only[XI,Yd]at this;omega
theorem ZXx(o:On h (c::l))(w:ZCx p xs c)(hl:xs.length<=1000000)(Y:ZCy t){Q:Z2->Hp->Prop}(X:∀ H h',On h' (H::l)->ZCx p (xs++[ZKi xs t]) H->Q (ZKi xs t) h'):
 cx 294 [vp p,Zl.enc t] Zl h Q:=by
 obtain⟨b,sl,v,d,rfl,oc,O⟩:=w;refine c294 ?_;refine ZU rfl ?_;have E:=o.split oc;have j:=O.1;dsimp only[ZM];refine ZL (x:=sl) E 0 rfl rfl ?_;refine ZL (x:=sl) E 0 rfl rfl ?_;have W:i64.wrap ((sl.len:Int)+1)=((xs.length+1:Nat):Int):=by rw[j];exact Z1 (by omega)
 rw[W];refine ZH E λL h2 o2=>?_;refine ZW (cd:=Zl) (g:=ob L (Zl.enc (ZKi xs t)).cells.toList 64) (s:=sl) (t:=⟨sj L,1,1⟩) (ys:=[ZKi xs t]) (o2.rot3) rfl O (by decide) (Zk (by rfl) rfl) (o2.get (i:=0) rfl) ?_ λV r n m h3 Z w3=>?_
 .rw [Xv];exact XG (Xr _ (show _<=1000001 by omega)) (by decide)
 .refine ZX (cd:=cSl) (i:=0) (x:=⟨r,n,m⟩) (vs':=[sv ⟨r,n,m⟩,Value.int .u64 v]) (Z.rot3) rfl rfl (by show 1<=2;omega) λh4 M=>?_;refine ZL (cd:=cI .u64) (x:=v) M 0 (i:=1) rfl rfl ?_;have z:ZCy (ZKi xs t):=⟨by unfold ZKi I64;dsimp only;omega,Y.2⟩
  refine ZQ0 (t:=ZKi xs t) M z λs5 d5 h5 bs F w5 y=>?_;refine⟨⟨Hp.sub_rds (F.get (i:=1) rfl) (ZBI (i:=1) rfl),trivial⟩,?_⟩;refine ZUG w5.row (F.mem (by simp)) y λG=>?_;refine ZX (cd:=cI .u64) (i:=1) (x:=G) (vs':=[sv ⟨r,n,m⟩,Value.int .u64 G]) F.swap rfl rfl (by show 1+1<=2;omega) λI o7=>?_;have o8:On I (ob b [sv ⟨r,n,m⟩,Value.int .u64 G] 181::V::l):=o7.sublist (XC _ ((XC _ (Xz _ _)).trans (Xz _ _)));obtain⟨c9,o9,w9⟩:=ZCx.close o8 w3;exact X c9 I o9 w9
end
def Zby(t:Z2)(s who other:Int):Out:=⟨who,28,t.ID,s,t.Bond,t.Price,t.Qty,other⟩
def ZIs(t:Z2):List Out:=[Zby t 1 t.Buyer t.Seller,Zby t 2 t.Seller t.Buyer]
theorem ZYd(o:On h l){Q:Sl->Hp->Prop}(r:∀ s d h',On h' (d::l)->Own ZCH d s (ZIs t)->Q s h'):cx 293 [Zl.enc t] cSl h Q:=by refine c293 ?_;refine c338 (Q:=λ(z:ZCH.T) j=>_) ?_;refine c338 (Q:=λ(z:ZCH.T) j=>_) ?_;refine ZH o λk1 j y=>?_;exact r ⟨sj k1,2,2⟩ _ j y (ZAx (rest:=[]) rfl rfl (by simp[ZIs]))
variable {m:Int}
theorem ZXj(o:On h l)(hn:1<=n/\n<=8)(hm:1<=m/\m<=4){Q:Option Addr->Hp->Prop}(hq:∀ p c h',On h' (c::l)->ZJu p c->Q p h'):cx 39 [vi n,vi m] cP h Q:=by
 refine c39 ?_;refine ZI (λt h'=>t=false/\h'=h) ?_ λJ hJ=>?_
 .rintro t h' ⟨rfl,rfl⟩;refine ZU rfl ?_;refine⟨by omega,by omega,by omega,by omega,?_⟩;refine ZH o λk1 h1 o1=>?_;refine ZH o1 λy h2 o2=>?_;refine Zc (λz h'=>∃ (i:Nat) (s1:Sl) (d1:Hp) (rows:List Sl) (ds:List Hp),z=(i:Int)/\(i:Int)<=n/\rows.length=i/\On h' (d1::ob y [sv s1,sv ⟨sj k1,n.toNat,n.toNat⟩] 179::ob k1 (Z0 n.toNat [vi 0]) 2::(ds++l))/\Own cSl d1 s1 rows/\ZDE (ZQo m.toNat) rows ds) (λz=>n.toNat-z.toNat)
   ⟨0,⟨none,0,0⟩,Hp.emp,[],[],rfl,by omega,rfl,o2.emp,Own.nil _,trivial⟩ ?_
  rintro J z X r ⟨i,s1,d1,rows,ds,rfl,hi,hr,L,Y,Z⟩
  refine ZG (λhlt=>?_) λhge=>?_
  .refine ZL (x:=s1) L 1 (i:=0) rfl rfl ?_;refine⟨by omega,by omega,by omega,by omega,?_⟩;refine ZH L λj h4 M=>?_;refine ZH M λI h5 o5=>?_;have E:On h5 (d1::ob I [sv ⟨sj j,m.toNat,m.toNat⟩] 76::ob j (Z0 m.toNat [vi 0]) 2::ob y [sv s1,sv ⟨sj k1,n.toNat,n.toNat⟩] 179::ob k1 (Z0 n.toNat [vi 0]) 2::(ds++l)):=o5.rot3;refine ZW (cd:=cSl) (g:=ob I [sv ⟨sj j,m.toNat,m.toNat⟩] 76) (s:=s1) (t:=⟨sj I,1,1⟩) (ys:=[(⟨sj j,m.toNat,m.toNat⟩:Sl)]) E rfl Y (by decide) (Zk (by rfl) rfl) (E.get (i:=1) rfl) ?_ λW H G F h6 o6 w6=>?_
   .rw [Xv];exact XG (Xr _ (show _<=1001 by omega)) (by decide)
   .have O:=o6.pull 3 rfl;refine ZX (cd:=cSl) (i:=0) (x:=⟨H,G,F⟩) (vs':=[sv ⟨H,G,F⟩,sv ⟨sj k1,n.toNat,n.toNat⟩]) O rfl rfl (by show 1<=2;omega) λh8 V=>?_;rw[Z1 (by omega)];refine r _ _ ⟨i+1,⟨H,G,F⟩,W,rows++[(⟨sj j,m.toNat,m.toNat⟩:Sl)],ds++[ob j (Z0 m.toNat [vi 0]) 2],rfl,by omega,by simp[hr],?_,w6,ZDE.app Z ⟨⟨_,ZIL,by simp⟩,trivial⟩⟩ (by omega);have o9:On h8 (ob y [sv ⟨H,G,F⟩,sv ⟨sj k1,n.toNat,n.toNat⟩] 179::W::ob j (Z0 m.toNat [vi 0]) 2::ob k1 (Z0 n.toNat [vi 0]) 2::(ds++l)):=V.sublist (XC _ (XC _ (Xz _ _)));refine o9.perm ((Xt _ _ _).trans ((XQ _ (XQ _ ?_))));refine(Xt _ _ _).trans (XQ _ ?_);rw[Xu];exact(Wg (l₁:=ds) (a:=ob j (Z0 m.toNat [vi 0]) 2) (l₂:=l)).symm
  .have hie:(i:Int)=n:=by omega
   have M:On X ((ds++[ob y [sv s1,sv ⟨sj k1,n.toNat,n.toNat⟩] 179,d1,ob k1 (Z0 n.toNat [vi 0]) 2])++l):=by refine L.perm ?_;rw[Xu];refine(Xt _ _ _).trans ?_;exact YA [ob y [sv s1,sv ⟨sj k1,n.toNat,n.toNat⟩] 179,d1,ob k1 (Z0 n.toNat [vi 0]) 2] ds l
   obtain⟨O,V⟩:=On.joined M;refine hq _ _ X O ⟨y,s1,⟨sj k1,n.toNat,n.toNat⟩,d1,_,rows,_,ds,m.toNat,rfl,V,Y,ZIL,by rw[XX];omega,Z⟩
 .exact ZU (Xj (by omega)) (ZU (Xj (by omega)) (ZU (Xj (by omega)) (hJ _ _ ⟨Xj (by omega),rfl⟩)))
def ZAr(acc:List ZCg)(x:ZE):List ZCg:=
 match acc.getLast? with
 | some v=>if v.Price=x.Price then acc.set (acc.length-1) ⟨v.Price,v.Qty+x.Left⟩ else acc++[⟨x.Price,x.Left⟩]
 | none=>acc++[⟨x.Price,x.Left⟩]
def ZCI(l:List ZE)(s:Int):List ZCg:=(ZAa l s).foldl ZAr []
def ZHA(ls:List ZCg):Int:=(ls.map ZCg.Qty).sum
def ZAH(st:Int×Int)(v:ZCg):Int×Int:=(st.1-min st.1 v.Qty,st.2+v.Price*min st.1 v.Qty)
def ZE7(l:List ZE)(s qty:Int):Int×Bool:=if qty<1\/ZHA (ZCI l s)<qty then (0,false) else (((ZCI l s).foldl ZAH (qty,0)).2,true)
def ZLW(l:List ZE)(s price qty:Int):Int:=
 if ZAd s=false\/price<1\/qty<1 then 1
 else if (ZE7 l (ZAf s) qty).2=false then 0
 else if (s=1/\(ZE7 l (ZAf s) qty).1<price*qty)\/(s=2/\(ZE7 l (ZAf s) qty).1>price*qty) then 13 else 0
def ZLY(n:Int)(ls:List ZCg):Prop:=∀ v∈ls,1<=v.Price/\v.Price<=1000000/\0<=v.Qty/\v.Qty<=n*1000000
theorem ZPY(h:ZLY n ls)(G:0<=n)(E:1<=x.Left/\x.Left<=1000000)(F:1<=x.Price/\x.Price<=1000000):ZLY (n+1) (ZAr ls x):=by
 have y:ZLY (n+1) ls:=λv j=>by have:=h v j;omega
 have z:ZLY (n+1) (ls++[⟨x.Price,x.Left⟩]):=by
  intro v j;rcases Xx.1 j with j|j
  .exact y v j
  .simp only[Xl]at j;subst j;dsimp only;omega
 unfold ZAr;cases hl:ls.getLast? with
 | none=>exact z
 | some v=>
   dsimp only;split
   .have j:=h v (List.mem_of_getLast? hl);intro u r;rcases XK r with r|r
    .exact y u r
    .subst r;dsimp only;omega
   .exact z
theorem ZNR(ls:List ZCg)(x:ZE):(ZAr ls x).length<=ls.length+1:=by
 unfold ZAr;split
 .split<;>simp
 .simp
section
variable {p:Option Addr}{xs:List ZE}{c h:Hp}{l:List Hp}
theorem ZL2{s:Int}(o:On h (c::l))(w:Zp p xs c)(hs:ZBx xs)(hsm:ZIv xs)(hl:xs.length<=1000){Q:Sl->Hp->Prop}(hq:∀ sl c' d' h',On h' (c'::d'::l)->Zp p xs c'->Own ZCT d' sl (ZCI xs s)->ZLY 1000 (ZCI xs s)->(ZCI xs s).length<=1000->Q sl h'):cx 362 [vp p,vi s] cSl h Q:=by
 refine c362 ?_;refine ZHC o w hs hl λs1 c1 d1 h1 o1 w1 wd=>?_;have hsl:=ZBt xs s;have V:∀ x∈ZAa xs s,x∈xs:=λx L=>(ZAR.1 L).1;unfold ZCI at hq;generalize ZAa xs s=ys at*;have hlen:=wd.1;refine Zc (λz h'=>∃ (i:Nat) (E:Hp),z.2=(i:Int)/\i<=ys.length/\On h' (E::c1::d1::l)/\Own ZCT E z.1 ((ys.take i).foldl ZAr [])/\ZLY i ((ys.take i).foldl ZAr [])/\((ys.take i).foldl ZAr []).length<=i) (λz=>ys.length-z.2.toNat)
  ⟨0,Hp.emp,rfl,Xh _,o1.emp,Own.nil _,(show ZLY _ _ by intro v W;simp at W),Xh _⟩ ?_
 rintro J ⟨z,zi⟩ h2 again ⟨i,E,hzi,hle,o2,w2,hk,hkl⟩
 dsimp only at hzi w2;subst hzi;dsimp only;refine ZG (λhlt=>?_) λhge=>?_
 ·have hi:i<ys.length:=by omega
  have a0:ys[i]?=some ys[i]:=Xa hi;have L:=hsm _ (V _ (Xs hi));have F:=ZAB ZAr [] ys a0;generalize ys[i]=x at a0 L F;have M:=ZPY hk (by omega) ⟨L.1,L.2.1⟩ L.2.2;have O:=ZNR ((ys.take i).foldl ZAr []) x;rw[<-F]at M O;rw[Z1 (by omega)];refine ZI (λz h'=>∃ E,On h' (E::c1::d1::l)/\Own ZCT E z ((ys.take (i+1)).foldl ZAr [])) ?_ λJ2 j=>?_
  .rintro z3 h3 ⟨d3,o3,w3⟩;exact again _ _ ⟨i+1,d3,rfl,by omega,o3,w3,M,by omega⟩ (by dsimp only;omega)
  ·rw[F]at j;generalize hacc:(ys.take i).foldl ZAr []=acc at*;unfold ZAr at j;have hla:=w2.1;refine ZN wd.row (Xb i) (by omega) λa r=>ZQ wd.row (o2.mem (by simp)) rfl r (i:=i) a0 (by rfl) ?_;by_cases h0:0<acc.length
   ·have H:acc.getLast?=some acc[acc.length-1]:=by rw[List.getLast?_eq_getElem?,Xa (by omega)]
    rw[H]at j;dsimp only at j;have W:=hk acc[acc.length-1] (Xs (by omega));have Y:acc[acc.length-1]?=some acc[acc.length-1]:=Xa (by omega);generalize acc[acc.length-1]=v at j W Y;have el:i64.wrap ((z.len:Int)-1)=((acc.length-1:Nat):Int):=by rw[w64 (by omega) (by omega)];omega
    rw[el];refine ZI (λt h'=>h'=h2/\t=(v.Price==x.Price)) ?_ λJ3 G=>?_
    .rintro t h' ⟨rfl,rfl⟩;refine ZD (λe=>?_) λe=>?_
     .rw [Xe (by simpa using e)]at j;refine ZN w2.row (Xb _) (by omega) λa r=>?_;rw[w2.part_at r];refine Zd (cd:=ZCT) (cf:=ci) w2.row (o2.mem (by simp)) rfl r (i:=acc.length-1) Y rfl (k:=1) (y:=v.Qty) rfl ?_;rw[w64 (by omega) (by omega)];refine ZN w2.row (Xb _) (by omega) λa r=>?_;rw[w2.part_at r];refine Zz (cd:=ZCT) (cf:=ci) o2 rfl rfl w2 r (i:=acc.length-1) (x0:=v) Y rfl (k:=1) (y:=v.Qty+x.Left) (x':=⟨v.Price,v.Qty+x.Left⟩) rfl (by decide) λc4 h4 I w4=>?_;exact j _ h4 ⟨c4,I,w4⟩
     .rw [Xd (by simpa using e)]at j;refine ZH o2 λX h4 I=>?_;refine ZW (cd:=ZCT) (g:=ob X (ZCT.enc ⟨x.Price,x.Left⟩).cells.toList 441) (s:=z) (t:=⟨sj X,1,1⟩) (ys:=[(⟨x.Price,x.Left⟩:ZCg)]) I.swap rfl w2 (by decide) (Zk (by rfl) rfl) (I.get (i:=0) rfl) ?_ λZ p n m h5 o5 w5=>?_
      .rw [Xv];exact XG (Xr _ (show _<=1001 by omega)) (by decide)
      .exact j ⟨p,n,m⟩ h5 ⟨Z,o5.sublist (XC _ (Xz _ _)),w5⟩
    .refine Zf (XB (by show (z.len:Int)>0;omega)) ?_;refine ZN w2.row (Xb _) (by omega) λa r=>?_;refine Zd (cd:=ZCT) (cf:=ci) w2.row (o2.mem (by simp)) rfl r (i:=acc.length-1) Y rfl (k:=0) (y:=v.Price) rfl ?_;exact G _ _ ⟨rfl,rfl⟩
   .have ZKj:acc=[]:=WJ.1 (by omega);subst ZKj;refine ZI (λt h'=>h'=h2/\t=false) ?_ λJ3 G=>?_
    .rintro t h' ⟨rfl,rfl⟩;refine ZU rfl ?_;refine ZH o2 λX h4 I=>?_;refine ZW (cd:=ZCT) (g:=ob X (ZCT.enc ⟨x.Price,x.Left⟩).cells.toList 441) (s:=z) (t:=⟨sj X,1,1⟩) (ys:=[(⟨x.Price,x.Left⟩:ZCg)]) I.swap rfl w2 (by decide) (Zk (by rfl) rfl) (I.get (i:=0) rfl) (by show (0+1)*16<=ZAW;unfold ZAW;omega) λZ p n m h5 o5 w5=>?_;exact j ⟨p,n,m⟩ h5 ⟨Z,o5.sublist (XC _ (Xz _ _)),w5⟩
    .exact ZU (Xj (by show ¬(z.len:Int)>0;rw[hla];simp)) (G _ _ ⟨rfl,rfl⟩)
 .have hie:i=ys.length:=by omega
  subst hie;rw[Xo]at w2 hk hkl;refine hq z c1 E h2 (o2.rot3.tail.perm (Xt _ _ _)) w1 w2 (λv W=>by have:=hk v W;omega) (by omega)
theorem ZYe(j:ZLY n ls)(y:0<=n):∀ i,0<=ZHA (ls.take i)/\ZHA (ls.take i)<=(i:Int)*(n*1000000):=by
 intro i;induction i with
 | zero=>simp[ZHA]
 | succ i E=>
   rw[XH];unfold ZHA at*;have r:((i+1:Nat):Int)*(n*1000000)=(i:Int)*(n*1000000)+n*1000000:=by rw[Int.natCast_add,Int.add_mul];simp
   rw[r];cases z:ls[i]? with
   | none=>
     simp only[Option.toList_none,Wl];have:=YZ y (show (0:Int)<=1000000 by decide);omega
   | some v=>
     have:=j v (Xn z);simp only[YR,Wo,XS,YB,YW,WV,VO];omega
theorem Zab{s:Int}(o:On h (c::l))(w:Zp p xs c)(hs:ZBx xs)(G:ZIv xs)(hl:xs.length<=1000)(hq:∀ I h',On h' (I::l)->Zp p xs I->Q (ZHA (ZCI xs s)) h'):cx 361 [vp p,vi s] ci h Q:=by
 refine c361 ?_;refine ZL2 o w hs G hl λs1 c1 d1 O M w1 H Y Z=>?_;generalize ZCI xs s=ls at*;have L:=H.1;have r:=ZYe Y (by decide);refine Zc (λz h'=>∃ i:Nat,z=(ZHA (ls.take i),(i:Int))/\i<=ls.length/\h'=O) (λz=>ls.length-z.2.toNat) ⟨0,rfl,Xh _,rfl⟩ ?_;rintro J z h' j ⟨i,rfl,hi,rfl⟩
 dsimp only;refine ZG (λab=>?_) λX=>?_
 .have E:i<ls.length:=by omega
  have a0:ls[i]?=some ls[i]:=Xa E;refine ZN H.row (Xb i) (by omega) λa W=>ZQ H.row (M.mem (by simp)) rfl W (i:=i) a0 (by rfl) ?_;have y:ZHA (ls.take i)+ls[i].Qty=ZHA (ls.take (i+1)):=by rw[XH,a0];simp only[ZHA,YR,Wo,XS,YB,YW,WV,VO,Int.add_zero]
  have h2:=r (i+1);have V:((i+1:Nat):Int)<=1000:=by omega
  have h4:((i+1:Nat):Int)*(1000*1000000)<=1000*(1000*1000000):=Int.mul_le_mul_of_nonneg_right V (by decide);rw[y,w64 (by omega) (by omega),Z1 (by omega)];exact j _ _ ⟨i+1,rfl,by omega,rfl⟩ (by dsimp only;omega)
 .have F:i=ls.length:=by omega
  subst F;rw[Xo];exact hq c1 h' (M.sublist (XC _ (Xz _ _))) w1
theorem ZWN{s qty:Int}(o:On h (c::l))(w:Zp p xs c)(hs:ZBx xs)(H:ZIv xs)(hl:xs.length<=1000)(ab:qty<=1000000){Q:ZBL×Bool->Hp->Prop}(G:∀ E h',On h' (E::l)->Zp p xs E->0<=(ZE7 xs s qty).1->Q (⟨0,(ZE7 xs s qty).1⟩,(ZE7 xs s qty).2) h'):cx 331 [vp p,vi s,vi qty] (ZV [Zm,cB]) h Q:=by
 refine c331 ?_;unfold ZE7 at G;refine ZI (λt h'=>∃ E,On h' (E::l)/\Zp p xs E/\t=decide (qty<1\/ZHA (ZCI xs s)<qty)) ?_ λJ hJ=>?_
 ·rintro t h' ⟨c1,I,L,rfl⟩;refine ZG (λW=>?_) λW=>?_
  .rw [Xe W]at G;exact G c1 h' I L (Yi 0)
  .rw [Xd W]at G;refine ZL2 I L hs H hl λs2 c2 d2 h2 o2 w2 wd hk hkl=>?_;generalize ZCI xs s=ls at*;have hlen:=wd.1;refine Zc (λz h'=>∃ i:Nat,z=(((ls.take i).foldl ZAH (qty,0)).1,(⟨0,((ls.take i).foldl ZAH (qty,0)).2⟩:ZBL),(i:Int))/\i<=ls.length/\h'=h2/\0<=((ls.take i).foldl ZAH (qty,0)).1/\((ls.take i).foldl ZAH (qty,0)).1<=1000000/\0<=((ls.take i).foldl ZAH (qty,0)).2/\((ls.take i).foldl ZAH (qty,0)).2<=(i:Int)*1000000000000) (λz=>ls.length-z.2.2.toNat)
    ⟨0,rfl,Xh _,rfl,by show 0<=qty;omega,ab,Yi 0,by show (0:Int)<=_;omega⟩ ?_
   rintro J z h' j ⟨i,rfl,hi,rfl,b1,b2,M,b4⟩
   dsimp only;refine ZG (λhlt=>?_) λhge=>?_
   .have F:i<ls.length:=by omega
    have a0:ls[i]?=some ls[i]:=Xa F;have r:=ZAB ZAH (qty,0) ls a0;have hv:=hk ls[i] (Xs F);generalize ls[i]=v at a0 r hv;generalize (ls.take i).foldl ZAH (qty,0)=st at*;have y:0<=min st.1 v.Qty:=by omega
    have Y:min st.1 v.Qty<=1000000:=by omega
    have Z:0<=v.Price*min st.1 v.Qty:=YZ (by omega) y;have hp1:v.Price*min st.1 v.Qty<=1000000*1000000:=VA hv.2.1 Y y (by decide);have hi6:(i:Int)*1000000000000<=1000*1000000000000:=Int.mul_le_mul_of_nonneg_right (by omega) (by decide);have O:((ls.take (i+1)).foldl ZAH (qty,0)).1=st.1-min st.1 v.Qty:=by rw[r];rfl
    have V:((ls.take (i+1)).foldl ZAH (qty,0)).2=st.2+v.Price*min st.1 v.Qty:=by rw[r];rfl
    refine ZN wd.row (Xb i) (by omega) λa ha=>ZQ wd.row (o2.mem (by simp)) rfl ha (i:=i) a0 (by rfl) ?_;rw[ZHg];refine ZKC ⟨by omega,by omega⟩ ⟨y,by omega⟩ ?_;refine ZZV (a:=st.2) (b:=v.Price*min st.1 v.Qty) ⟨M,by omega⟩ ⟨Z,by omega⟩ ?_;rw[w64 (by omega) (by omega),Z1 (by omega)];refine j _ _ ⟨i+1,by rw[O,V],by omega,rfl,by rw[O];omega,by rw[O];omega,by rw[V];omega,?_⟩ (by dsimp only;omega);rw[V,Int.natCast_add,Int.add_mul];omega
   .have X:i=ls.length:=by omega
    subst X;rw[Xo]at M⊢;exact G c2 h' (o2.sublist (XC _ (Xz _ _))) w2 M
 .refine ZG (λh1=>hJ _ _ ⟨c,o,w,(XB (.inl h1)).symm⟩) λh1=>?_;refine Zab o w hs H hl λc1 h1' I L=>hJ _ _ ⟨c1,I,L,?_⟩;exact XE.2 (by omega)
theorem ZYg{s price qty:Int}(o:On h (c::l))(w:Zp p xs c)(hs:ZBx xs)(L:ZIv xs)(hl:xs.length<=1000)(Z:price<=1000000)(I:qty<=1000000)(j:∀ O h',On h' (O::l)->Zp p xs O->Q (ZLW xs s price qty) h'):cx 290 [vp p,vi s,vi price,vi qty] ci h Q:=by
 refine c290 ?_;unfold ZLW at j;refine ZI (λt h'=>h'=h/\t=decide (ZAd s=false\/price<1\/qty<1)) ?_ λJ H=>?_
 ·rintro t h' ⟨rfl,rfl⟩;refine ZG (λE=>?_) λE=>?_
  .rw [Xe E]at j;exact j c h' o w
  ·rw[Xd E]at j;refine ZKa (ZWN o w hs L hl I λc1 G V M h0=>?_);generalize ZE7 xs (ZAf s) qty=F at*;refine ZD (λe=>?_) λe=>?_
   .rw [Xe (by simpa using e)]at j;exact j c1 G V M
   ·rw[Xd (by simpa using e)]at j;refine ZKC ⟨by omega,by omega⟩ ⟨by omega,by omega⟩ ?_;refine ZTO (a:=F.1) (b:=price*qty) V λW o2=>?_;have X:(ZDi F.1 (price*qty)<0)=(F.1<price*qty):=propext ZHB;have Y:(ZDi F.1 (price*qty)>0)=(F.1>price*qty):=by
     unfold ZDi;apply propext;split
     .omega
     .split<;>omega
    refine ZI (λt h'=>h'=W/\t=decide ((s=1/\F.1<price*qty)\/(s=2/\F.1>price*qty))) ?_ λJ2 z=>?_
    .rintro t h' ⟨rfl,rfl⟩;refine ZG (λE=>?_) λE=>?_
     .rw [Xe E]at j;exact j c1 h' o2 M
     .rw [Xd E]at j;exact j c1 h' o2 M
    ·simp only[X,Y];refine ZD (λy=>?_) λy=>?_
     .have y:s=1:=by simpa using y
      refine ZG (λr=>z _ _ ⟨rfl,(XB (.inl ⟨y,r⟩)).symm⟩) λr=>?_;refine ZU (by rw[y];rfl) (z _ _ ⟨rfl,(Xj ?_).symm⟩);omega
     .have y:¬s=1:=by simpa using y
      refine ZD (λr=>z _ _ ⟨rfl,XE.2 ?_⟩) λr=>z _ _ ⟨rfl,(Xj ?_).symm⟩
      .have r:s=2:=by simpa using r
       exact⟨λh=>.inr ⟨r,h⟩,λh=>h.elim (λh=>absurd h.1 y) λh=>h.2⟩
      .have r:¬s=2:=by simpa using r
       exact λh=>h.elim (λh=>y h.1) λh=>r h.1
 ·refine ZDP (ZD (λe=>H _ _ ⟨rfl,?_⟩) λe=>?_)
  .rw [XA];simp_all
  .refine ZG (λG=>H _ _ ⟨rfl,?_⟩) λG=>H _ _ ⟨rfl,?_⟩
   .rw [XA];simp_all
   .have e:ZAd s=true:=by simpa using e
    exact XE.2 (by rw[e];simp;omega)
end
def ZSl(s:Int)(a b:Za):Bool:=if a.Price=b.Price then decide (a.ID<b.ID) else Z5 (ZAf s) a.Price b.Price
def ZKs(s:Int)(b q:Za):Za:=if ZSl s q b=true then q else b
def ZL3(s:Int)(l:List Za):Za×Bool:=match l with
 | []=>(ZNO,false)
 | q::t=>if ZAd s=false then (ZNO,false) else ((q::t).foldl (ZKs s) q,true)
theorem ZUp{a b:Za}{Q:Bool->Hp->Prop}(j:Q (ZSl s a b) h):cx 288 [vi s,ZP.enc a,ZP.enc b] cB h Q:=by
 refine c288 ?_;unfold ZSl at j;refine ZD (λe=>?_) λe=>?_
 .rwa [Xe (by simpa using e)]at j
 .rw [Xd (by simpa using e)]at j;exact ZKa (ZK9 j)
theorem ZZT(r:Row ZP g sl qs)(Y:g.sub h)(hl:qs.length<=1000000){Q:Za×Bool->Hp->Prop}(E:Q (ZL3 s qs) h):
 cx 213 [vi s,Value.slice sl.a sl.len sl.cap] (ZV [ZP,cB]) h Q:=by
 refine c213 ?_;have j:=r.1;cases qs with
 | nil=>
   refine ZI (λt h'=>t=true/\h'=h) ?_ λJ G=>?_
   .rintro t h' ⟨rfl,rfl⟩;exact Zf rfl E
   .refine ZDP (ZD (λ_=>G _ _ ⟨rfl,rfl⟩) λ_=>G _ _ ⟨?_,rfl⟩);rw[j];rfl
 | cons q t=>
   unfold ZL3 at E;dsimp only at E;refine ZI (λu h'=>u=(!ZAd s)/\h'=h) ?_ λJ G=>?_
   ·rintro u h' ⟨rfl,rfl⟩;refine ZD (λe=>?_) λe=>?_
    .rwa [Xe (by simpa using e)]at E
    ·rw[Xd (by simpa using e)]at E;generalize I:q::t=qs at*;have W:qs[0]?=some q:=by rw[<-I];rfl
     have Z:0<qs.length:=by rw[<-I];simp
     refine ZN r (Yi 0) (by omega) λa M=>ZQ r Y rfl M (i:=0) W (by rfl) ?_;refine Zc (λz L=>∃ i:Nat,z=((qs.take i).foldl (ZKs s) q,(i:Int))/\i<=qs.length/\L=h') (λz=>qs.length-z.2.toNat) ⟨0,rfl,Xh _,rfl⟩ ?_;rintro J z L y ⟨i,rfl,hi,rfl⟩
     dsimp only;refine ZG (λac=>?_) λab=>?_
     .have O:i<qs.length:=by omega
      have a0:qs[i]?=some qs[i]:=Xa O;have F:=ZAB (ZKs s) q qs a0;rw[Z1 (by omega)];refine ZI (λx X=>x=(qs.take (i+1)).foldl (ZKs s) q/\X=L) ?_ λJ2 H=>?_
      .rintro x X ⟨rfl,rfl⟩;exact y _ _ ⟨i+1,rfl,by omega,rfl⟩ (by dsimp only;omega)
      .refine ZN r (Xb i) (by omega) λa M=>ZQ r Y rfl M (i:=i) a0 (by rfl) ?_;refine ZUp (a:=qs[i]) (b:=(qs.take i).foldl (ZKs s) q) ?_;refine ZD (λe=>H _ _ ⟨?_,rfl⟩) λe=>H _ _ ⟨?_,rfl⟩
       .rw [F];exact(Xe e).symm
       .rw [F];exact(Xd (by rw[e];simp)).symm
     .have V:i=qs.length:=by omega
      subst V;rw[Xo];exact E
   .refine ZDP (ZD (λe=>G _ _ ⟨e.symm,rfl⟩) λe=>G _ _ ⟨?_,rfl⟩);rw[e,j];rfl
theorem ZJs{ZDQ:List Hp}(o:On h (D::l))(O:On D ZDQ)(z:ZDQ[i]?=some c):
 ∃ R,On h (c::R::l)/\On R (ZDQ.eraseIdx i)/\∀ h' j l',On h' (j::R::l')->∃ y,On h' (y::l')/\On y (ZDQ.set i j):=by
 have r:i<ZDQ.length:=(Xi.1 z).1;have H:On h (c::(ZDQ.eraseIdx i++l)):=(o.split O).at' i z;have o2:On h (ZDQ.eraseIdx i++(c::l)):=H.perm Wg.symm;obtain⟨I,E⟩:=On.joined o2;refine⟨_,I.swap,E,λh' j l' G=>?_⟩;have L:On h' (ZDQ.eraseIdx i++(j::l')):=G.swap.split E;have M:On h' (j::((ZDQ.set i j).eraseIdx i++l')):=by
  have e:(ZDQ.set i j).eraseIdx i=ZDQ.eraseIdx i:=by rw[List.eraseIdx_eq_take_drop_succ,List.eraseIdx_eq_take_drop_succ,Uc (Xc _),Ue (by omega)]
  rw[e];exact L.perm Wg
 have F:=M.back' (by rw[Xp];exact r);rw[WW]at F;exact⟨_,On.joined F⟩
structure DS where
 bonds:List Bond
 parties:List Z8
 look:Int
 beat:Int
 now:Int
 books:List (List ZE)
 used:List Int
 quotes:List Za
 asks:List Ask
 due:Nat
 trades:List Z2
 order:Int
 seq:Int
 quote:Int
 ask:Int
structure DK where
 b:Nat
 sb:Sl
 sp:Sl
 sk:Sl
 pf:Option Addr
 pq:Option Addr
 pa:Option Addr
 pd:Option Addr
 pp:Option Addr
 pt:Option Addr
def DK.p(k:DK):Option Addr:=sj k.b
def ZAU(k:DK)(S:DS):List Value:=
 [sv k.sb,sv k.sp,vi S.look,vi S.beat,vi S.now,sv k.sk,vp k.pf,vp k.pq,vp k.pa,vp k.pd,vp k.pp,vp k.pt,vi S.order,vi S.seq,vi S.quote,vi S.ask]
def Books(ps:List (Option Addr))(bs:List (List ZE))(cs:List Hp):Prop:=
 ps.length=bs.length/\cs.length=bs.length/\∀ (i:Nat) (p:Option Addr) (b:List ZE) (c:Hp),ps[i]?=some p->bs[i]?=some b->cs[i]?=some c->Zp p b c
def ZAA(k:DK)(S:DS)(D:Hp):Prop:=
 ∃ (dB dP dK cF cQ cA cD cO cT:Hp) (ks:List (Option Addr)) (cs:List Hp),
  On D (ob k.b (ZAU k S) 121::dB::dP::dK::cF::cQ::cA::cD::cO::cT::cs)/\Own Zs dB k.sb S.bonds/\Own Zu dP k.sp S.parties/\Own cP dK k.sk ks/\
  ZC3 k.pf S.parties S.used cF/\Z4 k.pq S.quotes cQ/\ZA6 k.pa S.asks cA/\ZG7 k.pd S.due cD/\ZJu k.pp cO/\ZCx k.pt S.trades cT/\Books ks S.books cs
variable {k:DK}{S:DS}
theorem ZAA.ob(w:ZAA k S D)(j:D.sub h):(ob k.b (ZAU k S) 121).sub h:=by obtain⟨dB,dP,G,cF,E,r,y,z,F,ks,cs,o,_⟩:=w;exact Hp.sub_trans (o.mem (by simp)) j
theorem ZAA.firm_sub(w:ZAA k S D)(j:D.sub h):∃ cF,cF.sub h/\ZC3 k.pf S.parties S.used cF:=by obtain⟨dB,dP,G,cF,E,r,y,z,F,ks,cs,o,_,_,_,w,_⟩:=w;exact⟨cF,Hp.sub_trans (o.mem (by simp)) j,w⟩
theorem ZAA.bonds_sub(w:ZAA k S D)(j:D.sub h):∃ dB,dB.sub h/\Own Zs dB k.sb S.bonds:=by obtain⟨dB,dP,G,cF,E,r,y,z,F,ks,cs,o,w,_⟩:=w;exact⟨dB,Hp.sub_trans (o.mem (by simp)) j,w⟩
theorem ZAA.parties_sub(w:ZAA k S D)(j:D.sub h):∃ dB,dB.sub h/\Own Zu dB k.sp S.parties:=by obtain⟨dB,dP,G,cF,E,r,y,z,F,ks,cs,o,_,w,_⟩:=w;exact⟨dP,Hp.sub_trans (o.mem (by simp)) j,w⟩
theorem ZAA.nums(o:On h (D::l))(w:ZAA k S D):
 ∃ R,On h (Go.Eng.ob k.b (ZAU k S) 121::R::l)/\∀ h' l' now order seq quote ask,On h' (Go.Eng.ob k.b (ZAU k {S with now:=now,order:=order,seq:=seq,quote:=quote,ask:=ask}) 121::R::l')->
  ∃ j,On h' (j::l')/\ZAA k {S with now:=now,order:=order,seq:=seq,quote:=quote,ask:=ask} j:=by
 obtain⟨dB,dP,G,cF,E,r,y,z,F,ks,cs,O,w⟩:=w;obtain⟨R,L,_,H⟩:=ZJs o O (i:=0) rfl;refine⟨R,L,λh' l' now order seq quote ask I=>?_⟩;obtain⟨j,o2,M⟩:=H h' _ l' I;exact⟨j,o2,dB,dP,G,cF,E,r,y,z,F,ks,cs,M,w⟩
theorem ZAA.bonds(o:On h (D::l))(w:ZAA k S D):
 ∃ c R,On h (c::R::l)/\Own Zs c k.sb S.bonds/\∀ h' r l' x,On h' (r::R::l')->Own Zs r k.sb x->∃ j,On h' (j::l')/\ZAA k {S with bonds:=x} j:=by
 obtain⟨dB,dP,H,cF,F,y,z,E,G,ks,cs,V,W,w⟩:=w;obtain⟨R,M,_,I⟩:=ZJs o V (i:=1) rfl;refine⟨dB,R,M,W,λh' r l' x L w'=>?_⟩;obtain⟨j,o2,O⟩:=I h' _ l' L;exact⟨j,o2,r,dP,H,cF,F,y,z,E,G,ks,cs,O,w',w⟩
theorem ZAA.firm(o:On h (D::l))(w:ZAA k S D):
 ∃ c R,On h (c::R::l)/\ZC3 k.pf S.parties S.used c/\∀ h' r l' x,On h' (r::R::l')->ZC3 k.pf S.parties x r->∃ j,On h' (j::l')/\ZAA k {S with used:=x} j:=by
 obtain⟨dB,dP,H,cF,F,y,z,E,G,ks,cs,V,W,Z,Y,X,w⟩:=w;obtain⟨R,M,_,I⟩:=ZJs o V (i:=4) rfl;refine⟨cF,R,M,X,λh' r l' x L w'=>?_⟩;obtain⟨j,o2,O⟩:=I h' _ l' L;exact⟨j,o2,dB,dP,H,r,F,y,z,E,G,ks,cs,O,W,Z,Y,w',w⟩
theorem ZAA.quotes(o:On h (D::l))(w:ZAA k S D):
 ∃ c R,On h (c::R::l)/\Z4 k.pq S.quotes c/\∀ h' r l' x,On h' (r::R::l')->Z4 k.pq x r->∃ j,On h' (j::l')/\ZAA k {S with quotes:=x} j:=by
 obtain⟨dB,dP,H,cF,F,y,z,E,G,ks,cs,V,W,Z,Y,X,wQ,w⟩:=w;obtain⟨R,M,_,I⟩:=ZJs o V (i:=5) rfl;refine⟨F,R,M,wQ,λh' r l' x L w'=>?_⟩;obtain⟨j,o2,O⟩:=I h' _ l' L;exact⟨j,o2,dB,dP,H,cF,r,y,z,E,G,ks,cs,O,W,Z,Y,X,w',w⟩
theorem ZAA.asks(o:On h (D::l))(w:ZAA k S D):
 ∃ c R,On h (c::R::l)/\ZA6 k.pa S.asks c/\∀ h' r l' x,On h' (r::R::l')->ZA6 k.pa x r->∃ j,On h' (j::l')/\ZAA k {S with asks:=x} j:=by
 obtain⟨dB,dP,H,cF,F,y,z,E,G,ks,cs,V,X,wP,Z,Y,wQ,W,w⟩:=w;obtain⟨R,M,_,I⟩:=ZJs o V (i:=6) rfl;refine⟨y,R,M,W,λh' r l' x L w'=>?_⟩;obtain⟨j,o2,O⟩:=I h' _ l' L;exact⟨j,o2,dB,dP,H,cF,F,r,z,E,G,ks,cs,O,X,wP,Z,Y,wQ,w',w⟩
theorem ZAA.dues(o:On h (D::l))(w:ZAA k S D):
 ∃ c R,On h (c::R::l)/\ZG7 k.pd S.due c/\∀ h' r l' x,On h' (r::R::l')->ZG7 k.pd x r->∃ j,On h' (j::l')/\ZAA k {S with due:=x} j:=by
 obtain⟨dB,dP,H,cF,F,y,z,E,G,ks,cs,V,X,wP,wK,Z,wQ,W,Y,w⟩:=w;obtain⟨R,M,_,I⟩:=ZJs o V (i:=7) rfl;refine⟨z,R,M,Y,λh' r l' x L w'=>?_⟩;obtain⟨j,o2,O⟩:=I h' _ l' L;exact⟨j,o2,dB,dP,H,cF,F,y,r,E,G,ks,cs,O,X,wP,wK,Z,wQ,W,w',w⟩
theorem ZAA.poss(o:On h (D::l))(w:ZAA k S D):
 ∃ c R,On h (c::R::l)/\ZJu k.pp c/\∀ h' r l',On h' (r::R::l')->ZJu k.pp r->∃ j,On h' (j::l')/\ZAA k S j:=by
 obtain⟨dB,dP,H,cF,F,y,z,E,G,ks,cs,V,X,wP,wK,Z,wQ,W,Y,wO,w⟩:=w;obtain⟨R,M,_,I⟩:=ZJs o V (i:=8) rfl;refine⟨E,R,M,wO,λh' r l' L w'=>?_⟩;obtain⟨j,o2,O⟩:=I h' _ l' L;exact⟨j,o2,dB,dP,H,cF,F,y,z,r,G,ks,cs,O,X,wP,wK,Z,wQ,W,Y,w',w⟩
theorem ZAA.blots(o:On h (D::l))(w:ZAA k S D):
 ∃ c R,On h (c::R::l)/\ZCx k.pt S.trades c/\∀ h' r l' x,On h' (r::R::l')->ZCx k.pt x r->∃ j,On h' (j::l')/\ZAA k {S with trades:=x} j:=by
 obtain⟨dB,dP,H,cF,F,y,z,E,G,ks,cs,V,X,wP,wK,Z,wQ,W,Y,wO,wT,w⟩:=w;obtain⟨R,M,_,I⟩:=ZJs o V (i:=9) rfl;refine⟨G,R,M,wT,λh' r l' x L w'=>?_⟩;obtain⟨j,o2,O⟩:=I h' _ l' L;exact⟨j,o2,dB,dP,H,cF,F,y,z,E,r,ks,cs,O,X,wP,wK,Z,wQ,W,Y,wO,w',w⟩
theorem Books.set(w:Books ps bs cs){p:Option Addr}{b:List ZE}(H:ps[i]?=some p)(V:Zp p b c):Books ps (bs.set i b) (cs.set i c):=by
 obtain⟨G,M,O⟩:=w;refine⟨by simpa using G,by simpa using M,λj W I L E y z=>?_⟩;by_cases r:i=j
 .subst r;rw[H]at E;cases E;have F:i<bs.length:=by rw[<-G];exact(Xi.1 H).1
  rw[XM F]at y;rw[XM (by omega)]at z;cases y;cases z;exact V
 .rw [WZ r]at y z;exact O j W I L E y z
theorem ZAA.book(o:On h (D::l))(w:ZAA k S D)(hi:i<S.books.length):
 ∃ c R q,On h (c::R::l)/\Zp q S.books[i] c/\(∀ {K:Option Addr->Prop} {h'} {l'},On h' (D::l')->K q->ZC cSl ⟨k.b,5,none⟩ h' λs=>Zb s.a s.len (i:Int) λa=>ZC cP (a.add ((i:Int).toNat*1)) h' K)/\
  ∀ h' y l' x,On h' (y::R::l')->Zp q x y->∃ r,On h' (r::l')/\ZAA k {S with books:=S.books.set i x} r:=by
 obtain⟨dB,dP,M,cF,Z,W,X,Y,cT,ks,cs,L,wB,wP,z,wF,wQ,wA,wD,wO,wT,wb⟩:=w;obtain⟨E,F,j⟩:=wb;have V:cs[i]?=some cs[i]:=Xa (by omega);have H:ks[i]?=some ks[i]:=Xa (by omega);have hx:S.books[i]?=some S.books[i]:=Xa hi;obtain⟨R,o1,_,G⟩:=ZJs o L (i:=i+10) V;refine⟨cs[i],R,ks[i],o1,j i _ _ _ H hx V,λ{K h' l'} I hK=>?_,λh' y l' x I w'=>?_⟩
 .have O:D.sub h':=I.mem (by simp);refine ZK (b:=k.b) (vs:=ZAU k S) (e:=121) (cd:=cSl) (x:=k.sk) (Hp.sub_trans (L.mem (by simp)) O) (i:=5) rfl ?_;have:=z.1;refine ZN z.row (Xb i) (by omega) λa ha=>?_;exact ZQ z.row (Hp.sub_trans (L.mem (c:=M) (by simp)) O) rfl ha (i:=i) H rfl hK
 .obtain ⟨r,o2,o3⟩:=G h' _ l' I;exact⟨r,o2,dB,dP,M,cF,Z,W,X,Y,cT,ks,cs.set i y,o3,wB,wP,z,wF,wQ,wA,wD,wO,wT,Books.set ⟨E,F,j⟩ H w'⟩
structure DC where
 d:DS
 id:Int
 outs:List Out
def ZHL(to kind:Int)(ns:List Int):Out:=⟨to,kind,ns.getD 0 0,ns.getD 1 0,ns.getD 2 0,ns.getD 3 0,ns.getD 4 0,ns.getD 5 0⟩
def ZCJ(c:DC)(to kind:Int)(ns:List Int):DC:={c with outs:=c.outs++[ZHL to kind ns]}
def Zj(S:DS)(n:Int):List ZE:=(S.books[n.toNat]?).getD []
def ZV3:Bond:=⟨0,0,0,0,0,0,false⟩
def ZAL(S:DS)(n:Int):Bond:=(S.bonds[n.toNat]?).getD ZV3
def isBond(S:DS)(n:Int):Bool:=decide (0<=n/\n<S.books.length)
def ZAb(S:DS)(n:Int)(x:List ZE):DS:={S with books:=S.books.set n.toNat x}
def ZBF(S:DS)(s who other:Int)(t:Z2):Z2:={t with Buyer:=if s=2 then other else who,Seller:=if s=2 then who else other,Tick:=S.now}
def ZGL(c:DC)(s who other:Int)(t:Z2):DC:=
 {c with d:={c.d with trades:=c.d.trades++[ZKi c.d.trades (ZBF c.d s who other t)]},outs:=c.outs++ZIs (ZKi c.d.trades (ZBF c.d s who other t))}
def ZNM(n:Int)(f:ZIo):Z2:=⟨0,n,0,0,f.Price,f.Qty,0,0⟩
def ZCR(who n:Int)(o:ZE)(st:DC×Int)(f:ZIo):DC×Int:=
 (ZGL (ZCJ (ZCJ st.1 f.MakerParty 20 [f.Maker,f.Price,f.Qty,f.Left]) who 20 [o.ID,f.Price,f.Qty,i64.wrap (st.2-f.Qty)]) o.Side who f.MakerParty (ZNM n f),i64.wrap (st.2-f.Qty))
def ZDB(who:Int)(c:DC)(g:ZQv):DC:=ZCJ c who 21 [g.ID,g.Left]
def ZGi(c:DC)(o:ZE):ZE:={o with Seq:=c.d.seq+1}
def ZKR(c:DC)(n:Int)(x:List ZE):DC:={c with d:={c.d with books:=c.d.books.set n.toNat x,seq:=c.d.seq+1}}
def ZAJ(c:DC)(who n:Int)(o:ZE)(how:Int):DC×Int:=
 if (doV (Zj c.d n) (ZGi c o) how).2.2.2.2≠0 then ({c with d:=ZAb c.d n (doV (Zj c.d n) (ZGi c o) how).1},(doV (Zj c.d n) (ZGi c o) how).2.2.2.2)
 else
  (if how≠0/\how≠3/\0<(doV (Zj c.d n) (ZGi c o) how).2.2.2.1 then
     ZCJ ((doV (Zj c.d n) (ZGi c o) how).2.1.foldl (ZCR who n o) ((doV (Zj c.d n) (ZGi c o) how).2.2.1.foldl (ZDB who) (ZKR c n (doV (Zj c.d n) (ZGi c o) how).1),o.Left)).1 who 21 [o.ID,(doV (Zj c.d n) (ZGi c o) how).2.2.2.1]
  else ((doV (Zj c.d n) (ZGi c o) how).2.1.foldl (ZCR who n o) ((doV (Zj c.d n) (ZGi c o) how).2.2.1.foldl (ZDB who) (ZKR c n (doV (Zj c.d n) (ZGi c o) how).1),o.Left)).1,0)
def ZHZ(b:Bond)(how price qty:Int):Int:=if how≠4 then ZD9 b price qty else if price≠0 then 1 else if b.Halted=true then 6 else ZPl b qty
def ZAh(c:DC)(who:Int)(m:Msg):ZE:=⟨c.d.order+1,0,who,m.F_1,m.F_2,m.F_3⟩
def ZZs(c:DC):DC:={d:={c.d with order:=c.d.order+1},id:=c.d.order+1,outs:=c.outs}
def ZCt(c:DC)(who:Int)(m:Msg):DC×Int:=
 if isBond c.d m.F_0=false then (c,4)
 else if ZAd m.F_1=false\/m.F_4<0\/4<m.F_4 then (c,1)
 else if ZHZ (ZAL c.d m.F_0) m.F_4 m.F_2 m.F_3≠0 then (c,ZHZ (ZAL c.d m.F_0) m.F_4 m.F_2 m.F_3)
 else if (ZAJ c who m.F_0 (ZAh c who m) m.F_4).2=0 then (ZZs (ZAJ c who m.F_0 (ZAh c who m) m.F_4).1,0)
 else ZAJ c who m.F_0 (ZAh c who m) m.F_4
def ZAT(S:DS)(id:Int):Option Nat:=S.books.findIdx? λb=>(ZKh b id).isSome
def ZA0(o:ZE)(price qty:Int):ZE:={o with Price:=price,Left:=qty}
def ZCN(c:DC)(who n:Int)(o:ZE)(price qty:Int):DC×Int:=
 if ZD9 (ZAL c.d n) price qty≠0 then (c,ZD9 (ZAL c.d n) price qty)
 else if price=o.Price/\qty<=o.Left then ({c with d:=ZAb c.d n (ZC6 (Zj c.d n) o.ID qty).1},(ZC6 (Zj c.d n) o.ID qty).2)
 else ZAJ {c with d:=ZAb c.d n (ZAE (Zj c.d n) o.ID)} who n (ZA0 o price qty) 0
def ZTR(c:DC)(who n:Int)(id left:Int):DC:=ZCJ {c with d:=ZAb c.d n (ZAE (Zj c.d n) id)} who 21 [id,left]
def ZAw(c:DC)(who:Int)(m:Msg):DC×Int:=
 if m.Kind=6 then ZCt c who m
 else match ZAT c.d m.F_0 with
 | none=>(c,4)
 | some n=>
   if (ZIg (Zj c.d n) m.F_0).1.Owner≠who then (c,5)
   else if m.Kind=8 then ZCN {c with id:=m.F_0} who n (ZIg (Zj c.d n) m.F_0).1 m.F_1 m.F_2
   else (ZTR {c with id:=m.F_0} who n m.F_0 (ZIg (Zj c.d n) m.F_0).1.Left,0)
def ZJ4(n:Int):Bool:=decide (1<=n/\n<=1000)
def Z6(c:DC)(who:Int)(m:Msg):Ask:=⟨c.d.ask+1,who,m.F_0,m.F_1,m.F_2,u64.wrap m.F_3,i64.wrap (c.d.now+m.F_4),0,1,0⟩
def ZB6(a:Ask)(c:DC)(i:Nat):DC:=if ZCe .u64 (ZBK .u64 a.Dealers i) 1=1 then ZCJ c i 22 [a.ID,a.Bond,a.Side,a.Qty,a.Ends] else c
def ZN3(c:DC)(a:Ask):DC:={c with d:={c.d with asks:=(ZJQ c.d.asks a).1,ask:=c.d.ask+1,due:=c.d.due+1},id:=c.d.ask+1}
def ZBS(c:DC)(who:Int)(m:Msg):DC×Int:=
 if isBond c.d m.F_0=false then (c,4)
 else if ZAd m.F_1=false then (c,1)
 else if (ZAL c.d m.F_0).Halted=true then (c,6)
 else if ZPl (ZAL c.d m.F_0) m.F_2≠0 then (c,ZPl (ZAL c.d m.F_0) m.F_2)
 else if ZJd c.d.parties who (u64.wrap m.F_3)≠0 then (c,ZJd c.d.parties who (u64.wrap m.F_3))
 else if ZJ4 m.F_4=false then (c,1)
 else if (ZJQ c.d.asks (Z6 c who m)).2≠0 then (c,(ZJQ c.d.asks (Z6 c who m)).2)
 else ((List.range c.d.parties.length).foldl (ZB6 (Z6 c who m)) (ZN3 c (Z6 c who m)),0)
def ZFW(S:DS)(q:Za):Bool:=match getA S.asks q.Ask with
 | none=>false
 | some a=>a.State==2&&a.Hit==q.ID
def ZIM(c:DC)(who id:Int):DC×Int:=match getQ c.d.quotes id with
 | none=>(c,4)
 | some q=>if q.Dealer≠who then (c,5) else if ZFW c.d q=true then (c,11) else ({c with d:={c.d with quotes:=(ZIw c.d.quotes id who).1},id:=id},(ZIw c.d.quotes id who).2)
def ZAF(c:DC)(who:Int)(a:Ask)(m:Msg):Za:=⟨c.d.quote+1,a.ID,who,m.F_1,i64.wrap (c.d.now+m.F_2),true⟩
def ZQ1(c:DC)(q:Za):DC:={c with d:={c.d with quotes:=(ZJH c.d.quotes q).1,quote:=c.d.quote+1,due:=c.d.due+1},id:=c.d.quote+1}
def ZCM(c:DC)(who:Int)(m:Msg):DC×Int:=
 if m.Kind=11 then ZIM c who m.F_0
 else match getA c.d.asks m.F_0 with
 | none=>(c,4)
 | some a=>
   if ZCe .u64 (ZBK .u64 a.Dealers who) 1=0 then (c,5)
   else if a.State≠1 then (c,11)
   else if (ZAL c.d a.Bond).Halted=true then (c,6)
   else if ZCv (ZAL c.d a.Bond) m.F_1≠0 then (c,ZCv (ZAL c.d a.Bond) m.F_1)
   else if ZJ4 m.F_2=false then (c,1)
   else if (ZJH c.d.quotes (ZAF c who a m)).2≠0 then (c,(ZJH c.d.quotes (ZAF c who a m)).2)
   else (ZCJ (ZQ1 c (ZAF c who a m)) a.Client 23 [a.ID,(ZAF c who a m).ID,m.F_1,(ZAF c who a m).Expires],0)
def ZB5(S:DS)(who id:Int):Ask×Int:=match getA S.asks id with
 | none=>(ZQH,4)
 | some a=>if a.Client≠who then (a,5) else if a.State≠1 then (a,11) else (a,0)
def ZCQ(S:DS)(a:Ask)(q:Za):Int:=if (ZAL S a.Bond).Halted=true then 6 else ZLW (Zj S a.Bond) a.Side q.Price a.Qty
def ZES(S:DS):Int:=i64.wrap (S.now+S.look)
def ZMV(c:DC)(a:Ask)(q:Za):DC×Int:=
 if q.Live=false\/q.Expires<=c.d.now then (c,12)
 else if ZCQ c.d a q≠0 then (c,ZCQ c.d a q)
 else if (ZE1 c.d.parties c.d.used q.Dealer q.Price a.Qty).2≠0 then (c,(ZE1 c.d.parties c.d.used q.Dealer q.Price a.Qty).2)
 else if (ZD2 c.d.asks a.ID q.ID (ZES c.d)).2≠0 then (c,(ZD2 c.d.asks a.ID q.ID (ZES c.d)).2)
 else (ZCJ {c with d:={c.d with asks:=(ZD2 c.d.asks a.ID q.ID (ZES c.d)).1,due:=c.d.due+1},id:=a.ID} q.Dealer 24 [a.ID,q.ID,ZES c.d],0)
def ZGK(c:DC)(who:Int)(m:Msg):DC×Int:=
 if m.Kind=12 then match getQ c.d.quotes m.F_0 with
  | none=>(c,4)
  | some q=>if (ZB5 c.d who q.Ask).2≠0 then (c,(ZB5 c.d who q.Ask).2) else ZMV c (ZB5 c.d who q.Ask).1 q
 else if (ZB5 c.d who m.F_0).2≠0 then (c,(ZB5 c.d who m.F_0).2)
 else if (ZL3 (ZB5 c.d who m.F_0).1.Side (c.d.quotes.filter (ZPt (ZB5 c.d who m.F_0).1.ID c.d.now))).2=false then (c,12)
 else ZMV c (ZB5 c.d who m.F_0).1 (ZL3 (ZB5 c.d who m.F_0).1.Side (c.d.quotes.filter (ZPt (ZB5 c.d who m.F_0).1.ID c.d.now))).1
def ZW1(c:DC)(id st:Int):DC:={c with d:={c.d with asks:=(ZRe c.d.asks id st).1,quotes:=ZJI c.d.quotes id}}
def ZJy(c:DC)(a:Ask):DC:=ZCJ (ZW1 c a.ID 4) a.Client 27 [a.ID]
def ZGa(c:DC)(id:Int):DC:={c with d:={c.d with quotes:=killQ c.d.quotes id}}
def ZAQ(c:DC)(a:Ask):DC:=
 if a.Ends<=c.d.now then ZJy (ZGa c a.Hit) a
 else ZCJ {ZGa c a.Hit with d:={(ZGa c a.Hit).d with asks:=(ZG3 c.d.asks a.ID).1}} a.Client 25 [a.ID,a.Hit]
def ZCD(S:DS)(a:Ask):Za:=(ZKg ZNO (getQ S.quotes a.Hit)).1
def Zbk(c:DC)(a:Ask)(q:Za):DC:=
 ZGL (ZCJ (ZW1 {c with d:={c.d with used:=(ZL4 c.d.parties c.d.used q.Dealer q.Price a.Qty).1}} a.ID 3) a.Client 26 [a.ID,q.Price]) a.Side a.Client q.Dealer ⟨0,a.Bond,0,0,q.Price,a.Qty,a.ID,0⟩
def ZDg(c:DC)(who:Int)(m:Msg):DC×Int:=match getA c.d.asks m.F_0 with
 | none=>(c,4)
 | some a=>
   if a.State≠2 then (c,11)
   else if (ZCD c.d a).Dealer≠who then (c,5)
   else if m.Kind=15 then (ZAQ {c with id:=a.ID} a,0)
   else if ZCQ c.d a (ZCD c.d a)≠0 then ({c with id:=a.ID},ZCQ c.d a (ZCD c.d a))
   else if (ZL4 c.d.parties c.d.used (ZCD c.d a).Dealer (ZCD c.d a).Price a.Qty).2≠0 then ({c with id:=a.ID},(ZL4 c.d.parties c.d.used (ZCD c.d a).Dealer (ZCD c.d a).Price a.Qty).2)
   else (Zbk {c with id:=a.ID} a (ZCD c.d a),0)
def ZGh(c:DC)(who id:Int):DC×Int:=if (ZB5 c.d who id).2=0 then (ZJy {c with id:=id} (ZB5 c.d who id).1,0) else (c,(ZB5 c.d who id).2)
def ZWD(is:Int)(b:Bond):Bond:={b with Halted:=is==1}
def ZFz(c:DC)(n is:Int):DC×Int:=
 if isBond c.d n=false then (c,4)
 else if is≠0/\is≠1 then (c,1)
 else ({c with d:={c.d with bonds:=c.d.bonds.set n.toNat (ZWD is (ZAL c.d n))},id:=n},0)
def ZMX(S:DS)(who:Int)(m:Msg):Bool:=decide (6<=m.Kind/\m.Kind<=17)&&(isV m&&ZVX (ZEc S.parties who) m.Kind)
def ZBZ(c:DC)(who:Int)(m:Msg):DC×Int:=
 if ZMX c.d who m=false then (c,5)
 else if m.Kind=6\/m.Kind=7\/m.Kind=8 then ZAw c who m
 else if m.Kind=10\/m.Kind=11 then ZCM c who m
 else if m.Kind=12\/m.Kind=13 then ZGK c who m
 else if m.Kind=14\/m.Kind=15 then ZDg c who m
 else if m.Kind=16 then ZGh c who m.F_0
 else if m.Kind=9 then ZBS c who m
 else ZFz c m.F_0 m.F_1
def ZBU(S:DS):DC:=⟨S,0,[]⟩
def doD(S:DS)(who seq:Int)(m:Msg):DS×List Out:=
 if (ZBZ (ZBU S) who m).2≠0 then ((ZBZ (ZBU S) who m).1.d,[ZHL who 19 [seq,(ZBZ (ZBU S) who m).2]])
 else ((ZBZ (ZBU S) who m).1.d,ZHL who 18 [seq,(ZBZ (ZBU S) who m).1.id]::(ZBZ (ZBU S) who m).1.outs)
def Z7(k:DK)(S:DS)(h:Hp)(l:List Hp):Prop:=∃ D,On h (D::l)/\ZAA k S D
def ZFB(b:Nat)(who id:Int)(outs:List Out)(C:Hp):Prop:=∃ (s:Sl) (d:Hp),On C [ob b [vi who,vi id,sv s] 191,d]/\Own ZCH d s outs
def Has(k:DK)(b:Nat)(who:Int)(c:DC)(h:Hp)(l:List Hp):Prop:=∃ C,ZFB b who c.id c.outs C/\Z7 k c.d h (C::l)
theorem Z7.ob(a:Z7 k S h l):(Go.Eng.ob k.b (ZAU k S) 121).sub h:=by obtain⟨D,o,w⟩:=a;exact w.ob (o.mem (by simp))
theorem Z7.sub(a:Z7 k S h l)(j:g∈l):g.sub h:=by obtain⟨D,o,w⟩:=a;exact o.mem (by simp[j])
theorem Z7.new(a:Z7 k S h l)(j:∀ b h',Z7 k S h' (Go.Eng.ob b vs e::l)->K b h'):ZJ (.cells vs.toArray e (0,0)) h K:=by obtain⟨D,o,w⟩:=a;exact ZH o λb h' r=>j b h' ⟨D,r.swap,w⟩
theorem Z7.drop(a:Z7 k S h (g::l)):Z7 k S h l:=by obtain⟨D,o,w⟩:=a;exact⟨D,o.sublist (XC _ (Xz _ _)),w⟩
theorem Z7.perm(a:Z7 k S h l)(p:l.Perm l'):Z7 k S h l':=by obtain⟨D,o,w⟩:=a;exact⟨D,o.perm (p.cons _),w⟩
variable {c:DC}
theorem Has.ob(a:Has k b who c h l):(Go.Eng.ob k.b (ZAU k c.d) 121).sub h:=by obtain⟨C,_,a⟩:=a;exact a.ob
theorem Has.call(a:Has k b who c h l):∃ s,(Go.Eng.ob b [vi who,vi c.id,sv s] 191).sub h:=by obtain⟨C,⟨s,d,o,_⟩,a⟩:=a;exact⟨s,Hp.sub_trans (o.mem (by simp)) (a.sub (by simp))⟩
theorem Has.ldWho(a:Has k b who c h l){K:Int->Prop}(j:K who):ZC ci ⟨b,0,none⟩ h K:=by obtain⟨s,r⟩:=a.call;exact ZK (cd:=ci) (x:=who) r (i:=0) rfl j
theorem Has.new(a:Has k b who c h l)(j:∀ n h',Has k b who c h' (Go.Eng.ob n vs e::l)->K n h'):ZJ (.cells vs.toArray e (0,0)) h K:=by obtain⟨C,r,a⟩:=a;exact a.new λn h' a'=>j n h' ⟨C,r,a'.perm (Xt _ _ _)⟩
theorem Has.drop(a:Has k b who c h (g::l)):Has k b who c h l:=by obtain⟨C,j,a⟩:=a;exact⟨C,j,(a.perm (Xt _ _ _)).drop⟩
theorem Has.sub(a:Has k b who c h l)(j:g∈l):g.sub h:=by obtain⟨C,r,a⟩:=a;exact a.sub (by simp[j])
variable {K:Hp->Prop}
theorem Has.setId(a:Has k b who c h l){id:Int}(r:∀ h',Has k b who {c with id:=id} h' l->K h'):ZS ci ⟨b,1,none⟩ id h K:=by obtain⟨C,⟨s,d,F,G⟩,D,o,w⟩:=a;have y:On h (Go.Eng.ob b [vi who,vi c.id,sv s] 191::d::D::l):=o.swap.split F;refine ZX (cd:=ci) (i:=1) (x:=id) (vs':=[vi who,vi id,sv s]) y rfl rfl (by show 1+1<=3;omega) λj o2=>?_;obtain⟨z,E⟩:=On.joined (cs:=[Go.Eng.ob b [vi who,vi id,sv s] 191,d]) (l:=D::l) o2;exact r j ⟨_,⟨s,d,E,G⟩,D,z.swap,w⟩
theorem ZOV{s:Sl}(o:On h l)(r:Row ci g s ns)(G:g∈l)(H:ns.length<=6){Q:Out->Hp->Prop}(I:∀ h',On h' l->Q (ZHL to kind ns) h'):
 cx 79 [vi to,vi kind,Value.slice s.a s.len s.cap] ZCH h Q:=by
 refine c79 ?_;have j:=r.1;refine ZH o λk1 X M=>?_;refine ZX (cd:=ZCH) (i:=0) (x:=⟨to,kind,0,0,0,0,0,0⟩) (vs':=[vi to,vi kind,vi 0,vi 0,vi 0,vi 0,vi 0,vi 0]) M rfl rfl (Xc 8) λF o2=>?_;show ZBN ci (Zh (some ⟨k1,2,none⟩) 0 6 1) 6 s.a s.len F (λY z=>ZC ZCH ⟨k1,0,none⟩ z λW=>Q W z);rw[ZI5];have O:Own ci (Go.Eng.ob k1 [vi to,vi kind,vi 0,vi 0,vi 0,vi 0,vi 0,vi 0] 78) ⟨sj k1,8,8⟩ [to,kind,0,0,0,0,0,0]:=
  ZAx (rest:=[]) rfl rfl (by simp)
 have y:min s.len 6=ns.length:=by omega
 refine ZN2 (g:=g) (k:=2) (cap0:=s.cap) (ys:=ns) o2 rfl O (a:=⟨k1,0,none⟩) rfl (by rw[y,<-j];exact r) (o2.mem (by simp[G])) (by simp only[XI,Yd];omega) λc3 z E V=>?_;have L:=V.row.2;refine⟨ZHL to kind ns,Hp.sub_rds (E.mem (c:=c3) (by simp)) ?_,I z E.tail⟩;have e:ZO ci (List.take 2 [to,kind,0,0,0,0,0,0]++(ns++List.drop (2+ns.length) [to,kind,0,0,0,0,0,0]))=(ZCH.enc (ZHL to kind ns)).cells.toList:=by
  match ns,H with
  | [],_=>rfl
  | [a],_=>rfl
  | [a,b],_=>rfl
  | [a,b,c],_=>rfl
  | [a,b,c,d],_=>rfl
  | [a,b,c,d,e],_=>rfl
  | [a,b,c,d,e,f],_=>rfl
  | _::_::_::_::_::_::_::_,h=>simp at h
 rw[<-e];exact L
theorem ZUk{s:Sl}(a:Has k b who c h l)(r:Row ci g s ns)(G:g∈l)(H:ns.length<=6)(hl:c.outs.length<=1000000){Q:PUnit->Hp->Prop}(I:∀ h',Has k b who (ZCJ c to kind ns) h' l->Q ⟨⟩ h'):
 cx 86 [vp (sj b),vi to,vi kind,Value.slice s.a s.len s.cap] (ZV []) h Q:=by
 obtain⟨C,⟨s1,d,X,Z⟩,D,o,w⟩:=a;refine c86 ?_;have E:On h (Go.Eng.ob b [vi who,vi c.id,sv s1] 191::d::D::l):=o.swap.split X;dsimp only[ZM];refine ZL (x:=s1) E 0 (i:=2) rfl rfl ?_;refine ZOV (g:=g) E r (by simp[G]) H λh2 o2=>?_;refine⟨⟨Hp.sub_rds (o2.get (i:=0) rfl) (ZBI (i:=2) rfl),trivial⟩,?_⟩;refine ZH o2 λz h3 F=>?_;refine ZW (cd:=ZCH) (g:=Go.Eng.ob z (ZCH.enc (ZHL to kind ns)).cells.toList 78) (s:=s1) (t:=⟨sj z,1,1⟩) (ys:=[ZHL to kind ns]) (F.rot3) rfl Z (by decide) (Zk (by rfl) rfl) (F.get (i:=0) rfl) ?_ λj p n m h4 L Y=>?_
 .rw [Xv];exact XG (Xr _ (show _<=1000001 by omega)) (by decide)
 .refine ZX (cd:=cSl) (i:=2) (x:=⟨p,n,m⟩) (vs':=[vi who,vi c.id,sv ⟨p,n,m⟩]) (L.rot3) rfl rfl (by show 2+1<=3;omega) λy M=>?_;have O:On y (Go.Eng.ob b [vi who,vi c.id,sv ⟨p,n,m⟩] 191::j::D::l):=M.pick [0,1,3] 4;obtain⟨V,W⟩:=On.joined (cs:=[Go.Eng.ob b [vi who,vi c.id,sv ⟨p,n,m⟩] 191,j]) (l:=D::l) O;exact I y ⟨_,⟨_,j,W,Y⟩,D,V.swap,w⟩
theorem Z7.bonds(a:Z7 k S h l):∃ c R,On h (c::R::l)/\Own Zs c k.sb S.bonds/\∀ h' j l' x,On h' (j::R::l')->Own Zs j k.sb x->Z7 k {S with bonds:=x} h' l':=by obtain⟨D,o,w⟩:=a;exact w.bonds o
theorem Z7.firm(a:Z7 k S h l):∃ c R,On h (c::R::l)/\ZC3 k.pf S.parties S.used c/\∀ h' j l' x,On h' (j::R::l')->ZC3 k.pf S.parties x j->Z7 k {S with used:=x} h' l':=by obtain⟨D,o,w⟩:=a;exact w.firm o
theorem Z7.quotes(a:Z7 k S h l):∃ c R,On h (c::R::l)/\Z4 k.pq S.quotes c/\∀ h' j l' x,On h' (j::R::l')->Z4 k.pq x j->Z7 k {S with quotes:=x} h' l':=by obtain⟨D,o,w⟩:=a;exact w.quotes o
theorem Z7.asks(a:Z7 k S h l):∃ c R,On h (c::R::l)/\ZA6 k.pa S.asks c/\∀ h' j l' x,On h' (j::R::l')->ZA6 k.pa x j->Z7 k {S with asks:=x} h' l':=by obtain⟨D,o,w⟩:=a;exact w.asks o
theorem Z7.dues(a:Z7 k S h l):∃ c R,On h (c::R::l)/\ZG7 k.pd S.due c/\∀ h' j l' x,On h' (j::R::l')->ZG7 k.pd x j->Z7 k {S with due:=x} h' l':=by obtain⟨D,o,w⟩:=a;exact w.dues o
theorem Z7.blots(a:Z7 k S h l):∃ c R,On h (c::R::l)/\ZCx k.pt S.trades c/\∀ h' j l' x,On h' (j::R::l')->ZCx k.pt x j->Z7 k {S with trades:=x} h' l':=by obtain⟨D,o,w⟩:=a;exact w.blots o
theorem Z7.poss(a:Z7 k S h l):∃ c R,On h (c::R::l)/\ZJu k.pp c/\∀ h' j l',On h' (j::R::l')->ZJu k.pp j->Z7 k S h' l':=by obtain⟨D,o,w⟩:=a;exact w.poss o
theorem Z7.nums(a:Z7 k S h l):∃ R,On h (Go.Eng.ob k.b (ZAU k S) 121::R::l)/\∀ h' l' now order seq quote ask,On h' (Go.Eng.ob k.b (ZAU k {S with now:=now,order:=order,seq:=seq,quote:=quote,ask:=ask}) 121::R::l')->
 Z7 k {S with now:=now,order:=order,seq:=seq,quote:=quote,ask:=ask} h' l':=by
 obtain⟨D,o,w⟩:=a;exact w.nums o
theorem Z7.book(a:Z7 k S h l)(z:i<S.books.length):∃ c R q,On h (c::R::l)/\Zp q S.books[i] c/\(∀ {K:Option Addr->Prop},K q->ZC cSl ⟨k.b,5,none⟩ h λs=>Zb s.a s.len (i:Int) λa=>ZC cP (a.add ((i:Int).toNat*1)) h K)/\
 ∀ h' j l' x,On h' (j::R::l')->Zp q x j->Z7 k {S with books:=S.books.set i x} h' l':=by
 obtain⟨D,o,w⟩:=a;obtain⟨c,R,q,E,F,hl,y⟩:=w.book o z;exact⟨c,R,q,E,F,λr=>hl o r,y⟩
theorem Z7.dsub(a:Z7 k S h l):∃ D,D.sub h/\ZAA k S D:=by obtain⟨D,o,w⟩:=a;exact⟨D,o.mem (by simp),w⟩
theorem ZLk(a:Has k b who c h l)(ht:ZCy (ZBF c.d s w0 other t))(hl:c.d.trades.length<=1000000)(ho:c.outs.length<=1000000){Q:PUnit->Hp->Prop}(hq:∀ h',Has k b who (ZGL c s w0 other t) h' l->Q ⟨⟩ h'):
 cx 217 [vp k.p,vp (sj b),vi s,vi w0,vi other,Zl.enc t] (ZV []) h Q:=by
 refine c217 ?_;refine ZK (cd:=ci) (x:=c.d.now) a.ob (i:=4) rfl ?_;refine ZI (λx h'=>h'=h/\x=ZBF c.d s w0 other t) ?_ λJ H=>?_
 .rintro x h' ⟨rfl,rfl⟩;refine ZK (cd:=cP) (x:=k.pp) a.ob (i:=10) rfl ?_;obtain⟨C,⟨s1,d,V,wd⟩,a⟩:=a;obtain⟨cp,R,o1,w1,Z⟩:=a.poss;refine ZSq (t:=ZBF c.d s w0 other t) o1 w1 λr c2 h2 o2 w2=>?_;have y:=Z _ _ _ o2 w2;have F:=y.sub (g:=C) (by simp);dsimp only[ZM];refine ZK (b:=b) (vs:=[vi who,vi c.id,sv s1]) (e:=191) (cd:=cSl) (x:=s1) (Hp.sub_trans (V.mem (by simp)) F) (i:=2) rfl ?_;refine ZK (cd:=cP) (x:=k.pt) y.ob (i:=11) rfl ?_;obtain⟨cb,R3,o3,w3,z⟩:=y.blots;refine ZXx (t:=ZBF c.d s w0 other t) o3 w3 hl ht λc4 h4 M W=>?_;have a4:=z _ _ _ _ M W;have G:=a4.sub (g:=C) (by simp);refine⟨⟨Hp.sub_rds (Hp.sub_trans (V.mem (c:=Go.Eng.ob b [vi who,vi c.id,sv s1] 191) (by simp)) G) (ZBI (i:=2) rfl),trivial⟩,?_⟩;obtain⟨j,M,W⟩:=a4;refine ZYd (t:=ZKi c.d.trades (ZBF c.d s w0 other t)) M λs5 X h5 o5 w5=>?_;have O:On h5 (Go.Eng.ob b [vi who,vi c.id,sv s1] 191::d::X::j::l):=(o5.rot3).split V;refine⟨⟨Hp.sub_rds (O.get (i:=0) rfl) (ZBI (i:=2) rfl),trivial⟩,?_⟩;refine ZW (cd:=ZCH) (g:=X) (s:=s1) (t:=s5) (ys:=ZIs (ZKi c.d.trades (ZBF c.d s w0 other t))) O.swap rfl wd (by decide) w5.row (O.mem (by simp)) ?_ λE p n m h7 o7 w7=>?_
  .refine XG (Xr _ (show _<=1000002 from ?_)) (by decide);show c.outs.length+2<=1000002;omega
  .refine ZX (cd:=cSl) (i:=2) (x:=⟨p,n,m⟩) (vs':=[vi who,vi c.id,sv ⟨p,n,m⟩]) o7.swap rfl rfl (by show 2+1<=3;omega) λY o8=>?_;have o9:On Y (Go.Eng.ob b [vi who,vi c.id,sv ⟨p,n,m⟩] 191::E::j::l):=o8.pick [0,1,3] 4;obtain⟨I,L⟩:=On.joined (cs:=[Go.Eng.ob b [vi who,vi c.id,sv ⟨p,n,m⟩] 191,E]) (l:=j::l) o9;exact hq Y ⟨_,⟨_,E,L,w7⟩,j,I.swap,W⟩
 .unfold ZBF at H;refine ZD (λe=>H _ _ ⟨rfl,?_⟩) λe=>H _ _ ⟨rfl,?_⟩
  .have e:s=2:=by simpa using e
   rw[Xe e,Xe e]
  .have e:¬s=2:=by simpa using e
   rw[Xd e,Xd e]
theorem ZTS(a:Z7 k S h l){Q:Bool->Hp->Prop}(r:Q (isBond S n) h):cx 56 [vp k.p,vi n] cB h Q:=by
 refine c56 ?_;obtain⟨D,o,w⟩:=a;have j:=w.ob (o.mem (by simp));obtain⟨dB,dP,M,cF,I,F,G,H,L,ks,cs,O,W,wP,z,Y,wQ,V,X,Z,wT,E⟩:=w;have e:k.sk.len=S.books.length:=by rw[<-E.1];exact z.1
 unfold isBond at r;refine ZG (λy=>?_) λy=>?_
 .dsimp only[ZM,DK.p];refine ZK (cd:=cSl) (x:=k.sk) j (i:=5) rfl ?_;rw[e];rwa[show decide (0<=n/\n<(S.books.length:Int))=decide (n<(S.books.length:Int)) from XE.2 (by omega)]at r
 .rwa [Xj (by omega)]at r
theorem ZXr{x:Bond}(r:x.Tick≠0)(hl:x.Lot≠0)(j:Q (ZHZ x how price qty) h):cx 277 [Zs.enc x,vi how,vi price,vi qty] ci h Q:=by
 refine c277 ?_;unfold ZHZ at j;refine ZD (λe=>?_) λe=>?_
 .rw [Xe (by simpa using e)]at j;exact ZOm r hl j
 .rw [Xd (by simpa using e)]at j;refine ZD (λe=>?_) λe=>?_
  .rwa [Xe (by simpa using e)]at j
  .rw [Xd (by simpa using e)]at j;refine ZD (λe=>?_) λe=>?_
   .rwa [Xe e]at j
   .rw [Xd (by rw[e];simp)]at j;exact ZSz hl j
def ZAu(m:Int)(l:List ZE):Prop:=ZBx l/\ZIv l/\l.length<=64/\∀ x∈l,x.Seq<=m/\0<=x.Owner/\x.Owner<8
def ZML(f:ZIo):Prop:=1<=f.Price/\f.Price<=1000000/\0<=f.Qty/\f.Qty<=1000000/\0<=f.MakerParty/\f.MakerParty<8
variable {l:List ZE}
theorem ZAu.mono(h:ZAu m l)(r:m<=m'):ZAu m' l:=⟨h.1,h.2.1,h.2.2.1,λx j=>by have:=h.2.2.2 x j;omega⟩
theorem ZAu.sub{l':List ZE}(h:ZAu m l)(j:l'.Sublist l):ZAu m l':=
 ⟨h.1.sublist (j.map _),λx r=>h.2.1 x (j.subset r),XG j.length_le h.2.2.1,λx r=>h.2.2.2 x (j.subset r)⟩
theorem ZAG(l:List ZE)(id:Int):(ZAE l id).Sublist l:=List.eraseP_sublist
theorem ZD1(l:List ZE)(id left:Int):(ZC6 l id left).1=l\/∃ i o,l[i]?=some o/\o.ID=id/\1<=left/\left<=o.Left/\(ZC6 l id left).1=l.set i (ZA2 o left):=by
 unfold ZC6;cases y:l.findIdx? λo=>o.ID==id with
 | none=>exact .inl rfl
 | some i=>
   obtain⟨o,j,_,r,_⟩:=ZAY y;dsimp only;rw[j];dsimp only;split
   .exact .inl rfl
   .exact .inr ⟨i,o,j,by simpa using r,by omega,by omega,rfl⟩
theorem ZAu.less(h:ZAu m l)(id left:Int):ZAu m (ZC6 l id left).1:=by
 rcases ZD1 l id left with e|⟨i,o,y,_,F,G,e⟩
 .rw [e];exact h
 .rw [e];have z:=Xn y;have r:=(Xi.1 y).1;have E:(l.set i (ZA2 o left)).map (λx=>x.Seq)=l.map λx=>x.Seq:=by
   rw[VP];have:(ZA2 o left).Seq=(l.map λx=>x.Seq)[i]'(by simpa using r):=by rw[VH,(Xi.1 y).2];rfl
   rw[this,WH]
  refine⟨by unfold ZBx;rw[E];exact h.1,λx j=>?_,by rw[Xp];exact h.2.2.1,λx j=>?_⟩
  .rcases XK j with j|j
   .exact h.2.1 x j
   .have:=h.2.1 o z;subst j;exact⟨F,by show left<=_;omega,this.2.2⟩
  .rcases XK j with j|j
   .exact h.2.2.2 x j
   .subst j;exact h.2.2.2 o z
theorem ZAu.add(h:ZAu m l)(G:o.Seq<=m)(H:0<=o.Owner/\o.Owner<8):ZAu m (ZMZ l o).1:=by
 unfold ZMZ;split
 .exact h
 ·rename_i F;split
  .exact h
  .rename_i hl;have r:Zn o=true:=by
    cases e:Zn o with
    | true=>rfl
    | false=>exact absurd (.inl e) F
   have z:l.any (λx=>x.ID==o.ID||x.Seq==o.Seq)=false:=by
    cases e:l.any λx=>x.ID==o.ID||x.Seq==o.Seq with
    | false=>rfl
    | true=>exact absurd (.inr e) F
   have z:=YK.1 z;unfold Zn at r;simp only[Xf,Xw]at r;refine⟨?_,λx j=>?_,by simp;omega,λx j=>?_⟩
   .unfold ZBx;rw[Wo,VD];refine⟨h.1,by simp,λa E b y=>?_⟩;simp only[XS,YB,Xl]at y;subst y;obtain⟨x,j,rfl⟩:=Wa.1 E;have:=z x j;simp only[Wf,WS,not_or]at this;exact this.2
   .rcases Xx.1 j with j|j
    .exact h.2.1 x j
    .simp only[Xl]at j;subst j;exact⟨r.2.2.2.2.1,r.2.2.2.2.2.1,r.2.2.1,r.2.2.2.1⟩
   .rcases Xx.1 j with j|j
    .exact h.2.2.2 x j
    .simp only[Xl]at j;subst j;exact⟨G,H⟩
def ZGR(m:Int)(o:ZE)(n:Nat)(c:ZCL):Prop:=
 ZAu m c.l/\(∀ f∈c.fills,ZML f)/\c.fills.length<=n/\c.gone.length<=n/\0<=c.o.Left/\c.o.Left<=1000000/\c.o.Seq=o.Seq/\c.o.Owner=o.Owner/\c.o.ID=o.ID/\c.o.Side=o.Side/\c.o.Price=o.Price
theorem ZGR.meet{n:Nat}{c:ZCL}(h:ZGR m o n c)(V:1<=x.Left/\x.Left<=1000000/\1<=x.Price/\x.Price<=1000000)(O:0<=x.Owner/\x.Owner<8):ZGR m o (n+1) (Zo c x):=by
 obtain⟨E,F,L,M,H,I,z⟩:=h;have j:=ZEr c x;have r:=ZEj (c:=c) (x:=x) ⟨H,I⟩ (by omega);have G:=ZKl c x;refine⟨?_,?_,by omega,by omega,r.1,r.2,by rw[j.2.1,z.1],by rw[j.2.2.1,z.2.1],by rw[j.1,z.2.2.1],by rw[j.2.2.2.1,z.2.2.2.1],by rw[j.2.2.2.2,z.2.2.2.2]⟩
 ·unfold Zo;split
  .exact E
  .split
   .exact E.sub (ZAG _ _)
   .dsimp only;split
    .exact E.sub (ZAG _ _)
    .exact E.less _ _
 ·unfold Zo;split
  .exact F
  .split
   .exact F
   .dsimp only;intro f y;rcases Xx.1 y with y|y
    .exact F f y
    .simp only[Xl]at y;subst y;unfold ZML ZE4;dsimp only;omega
theorem ZV7(h:ZAu m l)(F:0<=o.Left/\o.Left<=1000000):ZGR m o 64 (ZAe l o how):=by
 unfold ZAe;have M:∀ y∈ZAl l o how,y∈l:=λy E=>ZCE E;have hl:=ZGO (xs:=l) o how;have L:=h.2.2.1
 have key:∀ (j:List ZE) (n:Nat) (c:ZCL),(∀ y∈j,y∈l)->ZGR m o n c->ZGR m o (n+j.length) (j.foldl Zo c):=by
  intro j;induction j with
  | nil=>intro n c _ z;exact z
  | cons x j O=>
    intro n c r z;have G:=r x (by simp);have:=O (n+1) (Zo c x) (λy E=>r y (by simp[E])) (z.meet (h.2.1 x G) (h.2.2.2 x G).2);rw[XI,show n+(j.length+1)=n+1+j.length by omega];exact this
 have:=key (ZAl l o how) 0 ⟨l,o,[],[]⟩ M ⟨h,by simp,Xc _,Xc _,F.1,F.2,rfl,rfl,rfl,rfl,rfl⟩;obtain⟨H,I,a3,a4,a5⟩:=this;exact⟨H,I,by omega,by omega,a5⟩
theorem ZGb(h:ZBw l o how=0):1<=o.Left/\o.Left<=1000000:=by
 unfold ZBw at h;split at h
 .cases h
 .rename_i j;have j:ZCf l o how=true:=by cases r:ZCf l o how with|true=>rfl|false=>exact absurd r j
  unfold ZCf at j;split at j
  .cases j
  split at j
  .cases j
  split at j
  .cases j
  have r:Zn (ZBV o how)=true:=j;have y:(ZBV o how).Left=o.Left:=by unfold ZBV;split<;>rfl
  unfold Zn at r;simp only[Xf,Xw]at r;rw[y]at r;exact⟨r.2.2.2.2.1,r.2.2.2.2.2.1⟩
theorem ZOa(h:ZAu m l)(r:o.Seq=m+1)(y:0<=o.Owner/\o.Owner<8):
 ZAu (m+1) (doV l o how).1/\(∀ f∈(doV l o how).2.1,ZML f)/\(doV l o how).2.1.length<=64/\(doV l o how).2.2.1.length<=64/\((doV l o how).2.2.2.2≠0->(doV l o how).1=l):=by
 unfold doV;by_cases e:ZBw l o how≠0
 .rw [Xe e];exact⟨h.mono (by omega),by simp,Xh _,Xh _,λ_=>rfl⟩
 .rw [Xd e];have hl:=ZGb (WF.1 e);obtain⟨c1,c2,c3,c4,z,E,j,c8,_⟩:=ZV7 (how:=how) h ⟨by omega,hl.2⟩;refine⟨?_,c2,c3,c4,λh=>absurd rfl h⟩;dsimp only;split
  .exact (c1.mono (by omega)).add (by rw[j,r];omega) (by rw[c8];exact y)
  .exact c1.mono (by omega)
structure WOk (N:Nat) (S:DS):Prop where
 bonds:∀ b∈S.bonds,1<=b.Tick/\1<=b.Lot/\1<=b.Low/\b.High<=1000000/\1<=b.Min/\b.Max<=1000000
 bl:S.books.length=S.bonds.length
 bl4:S.books.length<=4
 books:∀ b∈S.books,ZAu S.seq b
 pl:S.parties.length<=8
 qs:Srt Za.ID S.quotes
 qi:∀ q∈S.quotes,q.ID<=S.quote/\1<=q.Price/\q.Price<=1000000/\0<=q.Dealer/\q.Dealer<8
 sa:Srt Ask.ID S.asks
 ai:∀ a∈S.asks,a.ID<=S.ask/\1<=a.ID/\0<=a.Bond/\a.Bond<S.books.length/\1<=a.Qty/\a.Qty<=1000000/\0<=a.Client/\a.Client<8
 c1:0<=S.order/\S.order<=N
 c2:0<=S.seq/\S.seq<=N
 c3:0<=S.quote/\S.quote<=N
 c4:0<=S.ask/\S.ask<=N
 l1:S.quotes.length<=N
 l2:S.asks.length<=N
 l3:S.due<=2*N
 l4:S.trades.length<=64*N
 now:I64 S.now
theorem ZBB(h:isBond S n=true)(hl:S.books.length=S.bonds.length):ZAL S n∈S.bonds/\0<=n/\n<S.books.length/\S.bonds[n.toNat]?=some (ZAL S n):=by
 unfold isBond at h;have h:=Ww h;have j:n.toNat<S.bonds.length:=by omega
 unfold ZAL;rw[Xa j];exact⟨Xs j,h.1,h.2,rfl⟩
theorem ZBC(h:0<=n/\n<S.books.length):Zj S n=S.books[n.toNat]'(by omega):=by unfold Zj;rw[Xa (by omega)];rfl
theorem ZCV(i:WOk N S)(h:0<=n/\n<S.books.length):ZAu S.seq (Zj S n):=by rw[ZBC h];exact i.books _ (Xs _)
theorem ZIP(who:Int):∀ (j:List ZQv) (c:DC),(j.foldl (ZDB who) c).d=c.d/\(j.foldl (ZDB who) c).id=c.id
 | [],c=>⟨rfl,rfl⟩
 | g::j,c=>ZIP who j (ZDB who c g)
theorem ZSg{who:Int}(n:Int)(o:ZE):∀ (fs:List ZIo) (st:DC×Int),(fs.foldl (ZCR who n o) st).1.d={st.1.d with trades:=(fs.foldl (ZCR who n o) st).1.d.trades}/\(fs.foldl (ZCR who n o) st).1.id=st.1.id
 | [],st=>⟨rfl,rfl⟩
 | f::fs,st=>by have h:=ZSg (who:=who) n o fs (ZCR who n o st f);rw[Xy];exact⟨h.1,h.2⟩
theorem ZT3{who:Int}(n:Int)(o:ZE):∀ (fs:List ZIo) (st:DC×Int),(fs.foldl (ZCR who n o) st).1.d.trades.length=st.1.d.trades.length+fs.length
 | [],st=>rfl
 | f::fs,st=>by rw[Xy,ZT3 n o fs];simp[ZCR,ZGL,ZCJ];omega
def ZG5(c:DC)(n:Int)(o:ZE)(how:Int):List ZE×List ZIo×List ZQv×Int×Int:=doV (Zj c.d n) (ZGi c o) how
theorem ZDC(c:DC)(who n:Int)(o:ZE)(how:Int):(ZAJ c who n o how).1.d={c.d with books:=c.d.books.set n.toNat (ZG5 c n o how).1,seq:=if (ZAJ c who n o how).2=0 then c.d.seq+1 else c.d.seq,trades:=(ZAJ c who n o how).1.d.trades}/\
 (ZAJ c who n o how).1.id=c.id/\(ZAJ c who n o how).2=(ZG5 c n o how).2.2.2.2:=by
 unfold ZAJ;unfold ZG5;generalize doV (Zj c.d n) (ZGi c o) how=r;by_cases y:r.2.2.2.2≠0
 .rw [Xe y,Xd y];exact⟨rfl,rfl,rfl⟩
 .rw [Xd y];have y:r.2.2.2.2=0:=WF.1 y;have j:=ZSg (who:=who) n o r.2.1 ((r.2.2.1.foldl (ZDB who) (ZKR c n r.1),o.Left));have z:=ZIP who r.2.2.1 (ZKR c n r.1);dsimp only at j;rw[z.1,z.2]at j;generalize r.2.1.foldl (ZCR who n o) ((r.2.2.1.foldl (ZDB who) (ZKR c n r.1),o.Left))=st at j;refine⟨?_,?_,y.symm⟩
  .simp only[Yp];split
   .show st.1.d=_;rw[j.1];rfl
   .rw [j.1];rfl
  .dsimp only;split
   .exact j.2
   .exact j.2
theorem ZVQ(c:DC)(who n:Int)(o:ZE)(how:Int)(h:(ZG5 c n o how).2.1.length<=64):(ZAJ c who n o how).1.d.trades.length<=c.d.trades.length+64:=by
 unfold ZAJ;unfold ZG5 at h;generalize doV (Zj c.d n) (ZGi c o) how=r at h;by_cases y:r.2.2.2.2≠0
 .rw [Xe y];show c.d.trades.length<=_;omega
 .rw [Xd y];have j:=ZT3 (who:=who) n o r.2.1 ((r.2.2.1.foldl (ZDB who) (ZKR c n r.1),o.Left));have z:=ZIP who r.2.2.1 (ZKR c n r.1);dsimp only at j;rw[z.1]at j;have E:(ZKR c n r.1).d.trades=c.d.trades:=rfl;rw[E]at j;generalize r.2.1.foldl (ZCR who n o) ((r.2.2.1.foldl (ZDB who) (ZKR c n r.1),o.Left))=st at j⊢;dsimp only;split
  .show st.1.d.trades.length<=_;omega
  .omega
theorem WOk.mono(h:WOk N S)(j:N<=N'):WOk N' S:=
 {h with c1:=by have:=h.c1;omega,c2:=by have:=h.c2;omega,c3:=by have:=h.c3;omega,c4:=by have:=h.c4;omega,l1:=by have:=h.l1;omega,l2:=by have:=h.l2;omega,l3:=by have:=h.l3;omega,l4:=by have:=h.l4;omega}
theorem WOk.book(h:WOk N S){n:Nat}{x:List ZE}(y:ZAu S.seq x):WOk N {S with books:=S.books.set n x}:=
 {h with
  bl:=by rw[Xp];exact h.bl
  bl4:=by rw[Xp];exact h.bl4
  books:=λb r=>(XK r).elim (h.books b) λe=>by subst e;exact y
  ai:=λa j=>by rw[Xp];exact h.ai a j}
theorem WOk.meets(h:WOk N c.d)(I:0<=n/\n<c.d.books.length)(L:0<=o.Owner/\o.Owner<8):WOk (N+1) (ZAJ c who n o how).1.d:=by
 have z:=ZCV h I;have j:=ZOa (o:=ZGi c o) (how:=how) z rfl L;obtain⟨G,_,H⟩:=ZDC c who n o how;have V:=ZVQ c who n o how j.2.2.1;have O:=h.l4;have M:=h.c2;generalize ZAJ c who n o how=r at*;rw[G];by_cases E:r.2=0
 .rw [Xe E];exact {h.mono (Ws N) with
   bl:=by rw[Xp];exact h.bl
   bl4:=by rw[Xp];exact h.bl4
   books:=λb y=>(XK y).elim (λy=>(h.books b y).mono (by dsimp only;omega)) λe=>by subst e;exact j.1
   ai:=λa F=>by rw[Xp];exact h.ai a F
   c2:=by dsimp only;omega
   l4:=by dsimp only;omega}
 .rw [Xd E];exact {h.mono (Ws N) with
   bl:=by rw[Xp];exact h.bl
   bl4:=by rw[Xp];exact h.bl4
   books:=λb y=>(XK y).elim (h.books b) λe=>by rw[e];rw[H]at E;have:=j.2.2.2.2 E;show ZAu c.d.seq (doV (Zj c.d n) (ZGi c o) how).1;rw[this];exact z
   ai:=λa F=>by rw[Xp];exact h.ai a F
   l4:=by dsimp only;omega}
theorem WOk.quotes'(h:WOk N S){xs:List Za}(H:Srt Za.ID xs)(F:∀ q∈xs,∃ j∈S.quotes,j.ID=q.ID/\j.Price=q.Price/\j.Dealer=q.Dealer)(hl:xs.length<=S.quotes.length):WOk N {S with quotes:=xs}:=
 {h with
  qs:=H
  qi:=λq G=>by obtain⟨j,E,r,y,z⟩:=F q G;have:=h.qi j E;rw[r,y,z]at this;exact this
  l1:=XG hl h.l1}
theorem WOk.asks'(h:WOk N S)(I:Srt Ask.ID xs)(G:∀ q∈xs,∃ j∈S.asks,j.ID=q.ID/\j.Bond=q.Bond/\j.Qty=q.Qty/\j.Client=q.Client)(hl:xs.length<=S.asks.length):WOk N {S with asks:=xs}:=
 {h with
  sa:=I
  ai:=λq H=>by obtain⟨j,F,r,y,z,E⟩:=G q H;have:=h.ai j F;rw[r,y,z,E]at this;exact this
  l2:=XG hl h.l2}
theorem ZH9{key:α->Int}{id:Int}{f:α->α}{xs:List α}{y:α}(h:y∈upd key id f xs):∃ x∈xs,y=x\/(key x=id/\y=f x):=by
 unfold upd at h;obtain⟨x,j,rfl⟩:=Wa.1 h;refine⟨x,j,?_⟩;by_cases e:key x=id
 .rw [Xe e];exact .inr ⟨e,rfl⟩
 .rw [Xd e];exact .inl rfl
theorem WOk.kill(h:WOk N S)(id:Int):WOk N {S with quotes:=killQ S.quotes id}:=
 h.quotes' (h.qs.upd id λ_=>rfl) (λq r=>by
  obtain⟨x,j,rfl|⟨_,rfl⟩⟩:=ZH9 r
  .exact ⟨q,j,rfl,rfl,rfl⟩
  .exact ⟨x,j,rfl,rfl,rfl⟩) (by rw[killQ,ZSU];exact Xc _)
theorem WOk.clear(h:WOk N S)(id:Int):WOk N {S with quotes:=ZJI S.quotes id}:=
 h.quotes' (h.qs.sublist YN) (λq j=>⟨q,(Wk.1 j).1,rfl,rfl,rfl⟩) (Wj _ _)
theorem WOk.updA(h:WOk N S)(id:Int)(j:∀ x,(f x).ID=x.ID/\(f x).Bond=x.Bond/\(f x).Qty=x.Qty/\(f x).Client=x.Client):WOk N {S with asks:=upd Ask.ID id f S.asks}:=
 h.asks' (h.sa.upd id λx=>(j x).1) (λq y=>by
  obtain⟨x,r,rfl|⟨_,rfl⟩⟩:=ZH9 y
  .exact ⟨q,r,rfl,rfl,rfl,rfl⟩
  .exact ⟨x,r,(j x).1.symm,(j x).2.1.symm,(j x).2.2.1.symm,(j x).2.2.2.symm⟩) (by rw[ZSU];exact Xc _)
theorem ZHl(xs:List Ask)(id q u:Int):(ZD2 xs id q u).1=xs\/(ZD2 xs id q u).1=upd Ask.ID id (ZZF q u) xs:=by
 unfold ZD2;split
 .exact .inl rfl
 .split
  .exact .inl rfl
  .split
   .exact .inl rfl
   .exact .inr rfl
theorem ZFP(xs:List Ask)(id:Int):(ZG3 xs id).1=xs\/(ZG3 xs id).1=upd Ask.ID id ZYc xs:=by
 unfold ZG3;split
 .exact .inl rfl
 .split
  .exact .inl rfl
  .exact .inr rfl
theorem ZGg(xs:List Ask)(id st:Int):(ZRe xs id st).1=xs\/(ZRe xs id st).1=upd Ask.ID id (ZXh st) xs:=by
 unfold ZRe;split
 .exact .inl rfl
 .split
  .exact .inl rfl
  .split
   .exact .inl rfl
   .exact .inr rfl
theorem WOk.look(h:WOk N S)(id q u:Int):WOk N {S with asks:=(ZD2 S.asks id q u).1}:=by
 rcases ZHl S.asks id q u with e|e<;>rw[e]
 .exact h
 .exact h.updA id λx=>⟨rfl,rfl,rfl,rfl⟩
theorem WOk.back(h:WOk N S)(id:Int):WOk N {S with asks:=(ZG3 S.asks id).1}:=by
 rcases ZFP S.asks id with e|e<;>rw[e]
 .exact h
 .exact h.updA id λx=>⟨rfl,rfl,rfl,rfl⟩
theorem WOk.end(h:WOk N S)(id st:Int):WOk N {S with asks:=(ZRe S.asks id st).1}:=by
 rcases ZGg S.asks id st with e|e<;>rw[e]
 .exact h
 .exact h.updA id λx=>⟨rfl,rfl,rfl,rfl⟩
theorem WOk.due1(h:WOk N S):WOk (N+1) {S with due:=S.due+1}:={h.mono (Ws N)with l3:=by have:=h.l3;dsimp only;omega}
theorem WOk.used(h:WOk N S)(us:List Int):WOk N {S with used:=us}:={h with}
theorem WOk.trade1(h:WOk N S)(t:Z2):WOk (N+1) {S with trades:=S.trades++[t]}:={h.mono (Ws N)with l4:=by have:=h.l4;rw[Xg];simp;omega}
variable {a:Ask}
theorem ZT4(h:(ZJQ xs a).2≠0):(ZJQ xs a).1=xs:=by
 unfold ZJQ at*;split
 .rfl
 .rename_i j;rw[Xd j]at h;split
  .rfl
  .rename_i r;rw[Xd r]at h;exact absurd rfl h
theorem ZSm{xs:List Za}(h:(ZJH xs q).2≠0):(ZJH xs q).1=xs:=by
 unfold ZJH at*;split
 .rfl
 .rename_i j;rw[Xd j]at h;exact absurd rfl h
theorem ZQI{id q:Int}(h:(ZD2 xs id q u).2≠0):(ZD2 xs id q u).1=xs:=by
 unfold ZD2 at*;split
 .rfl
 .rename_i x y;rw[y]at h;dsimp only at h;split
  .rfl
  .rename_i j;rw[Xd j]at h;split
   .rfl
   .rename_i r;rw[Xd r]at h;exact absurd rfl h
theorem ZSN{ps:List Z8}{p q:Int}(h:(ZL4 ps us w p q).2≠0):(ZL4 ps us w p q).1=us:=by
 unfold ZL4 at*;split
 .rename_i j;rw[Xe j]at h;exact absurd rfl h
 .rfl
theorem ZDk{id:Int}(h:getA xs id=some a):a∈xs/\a.ID=id:=⟨Yq h,by have:=VT h;simpa using this⟩
theorem ZKL{xs:List Za}{id:Int}{a:Za}(h:getQ xs id=some a):a∈xs/\a.ID=id:=⟨Yq h,by have:=VT h;simpa using this⟩
variable {l:List Hp}
theorem Z7.setSeq(a:Z7 k S h l)(y:∀ h',Z7 k {S with seq:=v} h' l->K h'):ZS ci ⟨k.b,13,none⟩ v h K:=by obtain⟨R,o,r⟩:=a.nums;exact ZX (cd:=ci) (i:=13) (x:=v) (vs':=ZAU k {S with seq:=v}) o rfl rfl (by show 13+1<=16;omega) λj o2=>y j (r j l S.now S.order v S.quote S.ask o2)
theorem Z7.setOrder(a:Z7 k S h l)(y:∀ h',Z7 k {S with order:=v} h' l->K h'):ZS ci ⟨k.b,12,none⟩ v h K:=by obtain⟨R,o,r⟩:=a.nums;exact ZX (cd:=ci) (i:=12) (x:=v) (vs':=ZAU k {S with order:=v}) o rfl rfl (by show 12+1<=16;omega) λj o2=>y j (r j l S.now v S.seq S.quote S.ask o2)
theorem Z7.setQuote(a:Z7 k S h l)(y:∀ h',Z7 k {S with quote:=v} h' l->K h'):ZS ci ⟨k.b,14,none⟩ v h K:=by obtain⟨R,o,r⟩:=a.nums;exact ZX (cd:=ci) (i:=14) (x:=v) (vs':=ZAU k {S with quote:=v}) o rfl rfl (by show 14+1<=16;omega) λj o2=>y j (r j l S.now S.order S.seq v S.ask o2)
theorem Z7.setAsk(a:Z7 k S h l)(y:∀ h',Z7 k {S with ask:=v} h' l->K h'):ZS ci ⟨k.b,15,none⟩ v h K:=by obtain⟨R,o,r⟩:=a.nums;exact ZX (cd:=ci) (i:=15) (x:=v) (vs':=ZAU k {S with ask:=v}) o rfl rfl (by show 15+1<=16;omega) λj o2=>y j (r j l S.now S.order S.seq S.quote v o2)
theorem Z7.setNow(a:Z7 k S h l)(y:∀ h',Z7 k {S with now:=v} h' l->K h'):ZS ci ⟨k.b,4,none⟩ v h K:=by obtain⟨R,o,r⟩:=a.nums;exact ZX (cd:=ci) (i:=4) (x:=v) (vs':=ZAU k {S with now:=v}) o rfl rfl (by show 4+1<=16;omega) λj o2=>y j (r j l v S.order S.seq S.quote S.ask o2)
theorem Has.setSeq(a:Has k b who c h l)(j:∀ h',Has k b who {c with d:={c.d with seq:=v}} h' l->K h'):ZS ci ⟨k.b,13,none⟩ v h K:=by obtain⟨C,r,a⟩:=a;exact a.setSeq λh' a'=>j h' ⟨C,r,a'⟩
theorem Has.setOrder(a:Has k b who c h l)(j:∀ h',Has k b who {c with d:={c.d with order:=v}} h' l->K h'):ZS ci ⟨k.b,12,none⟩ v h K:=by obtain⟨C,r,a⟩:=a;exact a.setOrder λh' a'=>j h' ⟨C,r,a'⟩
theorem Has.setQuote(a:Has k b who c h l)(j:∀ h',Has k b who {c with d:={c.d with quote:=v}} h' l->K h'):ZS ci ⟨k.b,14,none⟩ v h K:=by obtain⟨C,r,a⟩:=a;exact a.setQuote λh' a'=>j h' ⟨C,r,a'⟩
theorem Has.setAsk(a:Has k b who c h l)(j:∀ h',Has k b who {c with d:={c.d with ask:=v}} h' l->K h'):ZS ci ⟨k.b,15,none⟩ v h K:=by obtain⟨C,r,a⟩:=a;exact a.setAsk λh' a'=>j h' ⟨C,r,a'⟩
theorem ZB3(a:Has k b who c h l)(E:ns.length<=6)(hl:c.outs.length<=1000000){Q:PUnit->Hp->Prop}(F:∀ h',Has k b who (ZCJ c to kind ns) h' l->Q ⟨⟩ h'):
 ZJ (.cells (ZO ci ns).toArray 2 (0,0)) h λk1 j=>cx 86 [vp (sj b),vi to,vi kind,Value.slice (sj k1) ns.length ns.length] (ZV []) j Q:=
 a.new λk1 j r=>ZUk (s:=⟨sj k1,ns.length,ns.length⟩) (g:=Go.Eng.ob k1 (ZO ci ns) 2) r (Zk rfl rfl) (by simp) E hl λz y=>F z y.drop
theorem ZFy(who:Int):∀ (j:List ZQv) (c:DC),(j.foldl (ZDB who) c).outs.length=c.outs.length+j.length/\(j.foldl (ZDB who) c).d=c.d
 | [],c=>⟨rfl,rfl⟩
 | g::j,c=>by have:=ZFy who j (ZDB who c g);refine⟨?_,this.2⟩;rw[Xy,this.1];simp[ZDB,ZCJ];omega
theorem ZF4(n:Int)(o:ZE):∀ (fs:List ZIo) (st:DC×Int),(fs.foldl (ZCR who n o) st).1.outs.length=st.1.outs.length+4*fs.length/\(fs.foldl (ZCR who n o) st).1.d.trades.length=st.1.d.trades.length+fs.length/\(fs.foldl (ZCR who n o) st).1.d.now=st.1.d.now
 | [],c=>⟨rfl,rfl,rfl⟩
 | f::fs,st=>by
   have:=ZF4 n o fs (ZCR who n o st f);refine⟨?_,?_,this.2.2⟩
   .rw [Xy,this.1];simp[ZCR,ZGL,ZCJ,ZIs];omega
   .rw [Xy,this.2.1];simp[ZCR,ZGL,ZCJ];omega
theorem ZLS(a:Has k b who c h l)(i:WOk N c.d)(hN:N<=10000)(hn:0<=n/\n<c.d.books.length)(hw:0<=who/\who<8)(how8:0<=o.Owner/\o.Owner<8)(ho:c.outs.length<=500000)(y:∀ h',Has k b who (ZAJ c who n o how).1 h' l->Q (ZAJ c who n o how).2 h'):
 cx 278 [vp k.p,vp (sj b),vi n,ZF.enc o,vi how] ci h Q:=by
 refine c278 ?_;have hc2:=i.c2;have hl4:=i.l4;have M:=ZCV i hn;have hdo:=ZOa (o:=ZGi c o) (how:=how) M rfl how8;have G:=ZBC hn;obtain⟨m,rfl⟩:=Wd hn.1;have hm:m<c.d.books.length:=by omega
 unfold ZAJ at y;refine ZK (cd:=ci) (x:=c.d.seq) a.ob (i:=13) rfl ?_;rw[w64 (by omega) (by omega)];obtain⟨C,wc,a⟩:=a;obtain⟨cb,R,q,o1,w1,hld,cl⟩:=a.book hm;refine hld ?_;have G:Zj c.d ((m:Nat):Int)=c.d.books[m]:=G;rw[<-G]at w1;refine Zbw (x:=ZGi c o) (how:=how) o1 w1 M.1 M.2.1 (by have:=M.2.2.1;omega) λsf sg c2 df dg h2 o2 w2 wf wg=>?_;have a2:=cl h2 c2 _ _ (o2.pick [0,3,1,2] 4) w2;have a3:Has k b who {c with d:={c.d with books:=c.d.books.set m (doV (Zj c.d ((m:Nat):Int)) (ZGi c o) how).1}} h2 (df::dg::l):=
  ⟨C,wc,a2.perm ((Xt _ _ _ |>.cons _).trans (Xt _ _ _))⟩
 unfold ZKR ZAb at y;simp only[XD]at y;generalize doV (Zj c.d ((m:Nat):Int)) (ZGi c o) how=r at y wf wg a3 hdo;obtain⟨xs,fs,E,left,e⟩:=r;dsimp only at y wf wg a3 hdo⊢;obtain⟨_,hf,hfl,hgl,_⟩:=hdo;refine ZD (λhe=>?_) λhe=>?_
 .rw [Xe (by simpa using he)]at y;exact y h2 a3.drop.drop
 rw[Xd (by simpa using he)]at y;have he:e=0:=by simpa using he
 refine ZK (cd:=ci) (x:=c.d.seq) a3.ob (i:=13) rfl ?_;rw[w64 (by omega) (by omega)];dsimp only[ZM,DK.p];refine a3.setSeq λh4 a4=>?_;have a4:Has k b who {c with d:={c.d with books:=c.d.books.set m xs,seq:=c.d.seq+1}} h4 (df::dg::l):=a4;generalize hcm:({c with d:={c.d with books:=c.d.books.set m xs,seq:=c.d.seq+1}}:DC)=W at y a4;have X:W.outs=c.outs:=by rw[<-hcm]
 have hcm2:W.d.trades=c.d.trades:=by rw[<-hcm]
 have hcm3:W.d.now=c.d.now:=by rw[<-hcm]
 have hgn:=wg.1;have hfn:=wf.1;refine Zc (λz h'=>∃ i:Nat,z=(i:Int)/\i<=E.length/\Has k b who ((E.take i).foldl (ZDB who) W) h' (df::dg::l)) (λz=>E.length-z.toNat) ⟨0,rfl,Xh _,a4⟩ ?_;rintro J z h5 Z ⟨j,rfl,hj,a5⟩
 refine ZG (λhlt=>?_) λhge=>?_
 .have V:j<E.length:=by omega
  have a0:E[j]?=some E[j]:=Xa V;have F:=ZAB (ZDB who) W E a0;have Y:=(ZFy who (E.take j) W).1;rw[Xk]at Y;refine ZN wg.row (Xb j) (by omega) λp hp=>ZQ wg.row (a5.sub (by simp)) rfl hp (i:=j) a0 (by rfl) ?_;refine a5.ldWho ?_;refine ZB3 (ns:=[E[j].ID,E[j].Left]) a5 (by simp) (by rw[Y,X];omega) λh6 a6=>?_;rw[Z1 (by omega)];exact Z _ _ ⟨j+1,rfl,by omega,by rw[F];exact a6⟩ (by omega)
 ·have:j=E.length:=by omega
  subst this;rw[Xo]at a5;have O:=ZFy who E W;generalize E.foldl (ZDB who) W=H at y a5 O;have hcgo:H.outs.length<=c.outs.length+64:=by rw[O.1,X];omega
  have hcgt:H.d.trades.length=c.d.trades.length:=by rw[O.2,hcm2]
  have hcgn:H.d.now=c.d.now:=by rw[O.2,hcm3]
  refine Zc (λz h'=>∃ i:Nat,z=(((fs.take i).foldl (ZCR who (m:Int) o) (H,o.Left)).2,(i:Int))/\i<=fs.length/\Has k b who ((fs.take i).foldl (ZCR who (m:Int) o) (H,o.Left)).1 h' (df::dg::l)) (λz=>fs.length-z.2.toNat) ⟨0,rfl,Xh _,a5⟩ ?_;rintro J2 z h6 I ⟨j,rfl,hj,a6⟩;dsimp only;refine ZG (λhlt=>?_) λhge=>?_
  .have V:j<fs.length:=by omega
   have a0:fs[j]?=some fs[j]:=Xa V;have F:=ZAB (ZCR who (m:Int) o) (H,o.Left) fs a0;have hfj:=hf fs[j] (Xs V);obtain⟨hl1,hl2,hl3⟩:=ZF4 (who:=who) (m:Int) o (fs.take j) (H,o.Left);rw[Xk]at hl1 hl2;generalize fs[j]=f at a0 F hfj;generalize (fs.take j).foldl (ZCR who (m:Int) o) (H,o.Left)=st at*;dsimp only at hl1 hl2 hl3;refine ZN wf.row (Xb j) (by omega) λp hp=>ZQ wf.row (a6.sub (by simp)) rfl hp (i:=j) a0 (by rfl) ?_;refine ZB3 (ns:=[f.Maker,f.Price,f.Qty,f.Left]) a6 (by simp) (by omega) λh7 a7=>?_;refine a7.ldWho ?_;refine ZB3 (ns:=[o.ID,f.Price,f.Qty,i64.wrap (st.2-f.Qty)]) a7 (by simp) (by simp[ZCJ];omega) λh8 a8=>?_;refine a8.ldWho ?_;have hbl:=i.bl4;refine ZLk (t:=ZNM (m:Int) f) a8 ?_ (by show st.1.d.trades.length<=_;omega) (by simp[ZCJ];omega) λh9 a9=>?_
   .have hnow:=i.now;have L:(ZCJ (ZCJ st.1 f.MakerParty 20 [f.Maker,f.Price,f.Qty,f.Left]) who 20 [o.ID,f.Price,f.Qty,i64.wrap (st.2-f.Qty)]).d.now=c.d.now:=by show st.1.d.now=_;rw[hl3,hcgn]
    unfold ZML at hfj;unfold ZCy ZBF ZNM I64;unfold I64 at hnow;rw[L];dsimp only;refine⟨by omega,by omega,?_,?_,by omega,by omega,by omega,by omega⟩
    .split<;>omega
    .split<;>omega
   .rw [Z1 (by omega)];refine I _ _ ⟨j+1,?_,by omega,?_⟩ (by dsimp only;omega)
    .rw [F];rfl
    .rw [F];exact a9
  ·have:j=fs.length:=by omega
   subst this;rw[Xo]at a6;have hcf:=(ZF4 (who:=who) (m:Int) o fs (H,o.Left)).1;generalize fs.foldl (ZCR who (m:Int) o) (H,o.Left)=st at y a6 hcf;dsimp only at hcf;refine ZI (λt h'=>h'=h6/\t=decide (how≠0/\how≠3/\0<left)) ?_ λJ3 hJ3=>?_
   .rintro t h' ⟨rfl,rfl⟩;refine ZG (λhc=>?_) λhc=>?_
    .rw [Xe hc]at y;refine a6.ldWho ?_;refine ZB3 (ns:=[o.ID,left]) a6 (by simp) (by omega) λh7 a7=>?_;exact y h7 a7.drop.drop
    .rw [Xd hc]at y;exact y h' a6.drop.drop
   .refine ZD (λL=>ZD (λe2=>hJ3 _ _ ⟨rfl,?_⟩) λe2=>hJ3 _ _ ⟨rfl,?_⟩) λL=>hJ3 _ _ ⟨rfl,?_⟩
    .have L:how≠0:=by simpa using L
     have e2:how≠3:=by simpa using e2
     exact XE.2 ⟨λh=>⟨L,e2,h⟩,λh=>h.2.2⟩
    .have e2:how=3:=by simpa using e2
     exact(Xj λh=>h.2.1 e2).symm
    .have L:how=0:=by simpa using L
     exact(Xj λh=>h.1 L).symm
theorem Z7.ldBond(a:Z7 k S h l)(F:isBond S n=true)(hl:S.books.length=S.bonds.length){K:Bond->Prop}(E:K (ZAL S n)):
 ZC cSl ⟨k.b,0,none⟩ h λs=>Zb s.a s.len n λp=>ZC Zs (p.add (n.toNat*7)) h K:=by
 obtain⟨_,y,I,H⟩:=ZBB F hl;obtain⟨D,o,w⟩:=a;obtain⟨dB,z,j⟩:=w.bonds_sub (o.mem (by simp));have r:=j.1;refine ZK (cd:=cSl) (x:=k.sb) (w.ob (o.mem (by simp))) (i:=0) rfl ?_;refine ZN j.row y (by omega) λp G=>?_;exact ZQ j.row z rfl G (i:=n.toNat) H rfl E
theorem Z7.ldHalted(a:Z7 k S h l)(H:isBond S n=true)(hl:S.books.length=S.bonds.length){K:Bool->Prop}(G:K (ZAL S n).Halted):
 ZC cSl ⟨k.b,0,none⟩ h λs=>Zb s.a s.len n λp=>ZC cB ⟨(p.add (n.toNat*7)).block,(p.add (n.toNat*7)).off+6,none⟩ h K:=by
 obtain⟨_,E,L,I⟩:=ZBB H hl;obtain⟨D,o,w⟩:=a;obtain⟨dB,F,j⟩:=w.bonds_sub (o.mem (by simp));have r:=j.1;refine ZK (cd:=cSl) (x:=k.sb) (w.ob (o.mem (by simp))) (i:=0) rfl ?_;refine ZN j.row E (by omega) λp z=>?_;rw[j.part_at z];exact Zd (cd:=Zs) (cf:=cB) j.row F rfl z (i:=n.toNat) I rfl (k:=6) (y:=(ZAL S n).Halted) rfl G
theorem Has.ldBond(a:Has k b who c h l)(r:isBond c.d n=true)(hl:c.d.books.length=c.d.bonds.length){K:Bond->Prop}(j:K (ZAL c.d n)):
 ZC cSl ⟨k.b,0,none⟩ h λs=>Zb s.a s.len n λp=>ZC Zs (p.add (n.toNat*7)) h K:=by
 obtain⟨C,y,a⟩:=a;exact a.ldBond r hl j
theorem Has.ldHalted(a:Has k b who c h l)(r:isBond c.d n=true)(hl:c.d.books.length=c.d.bonds.length){K:Bool->Prop}(j:K (ZAL c.d n).Halted):
 ZC cSl ⟨k.b,0,none⟩ h λs=>Zb s.a s.len n λp=>ZC cB ⟨(p.add (n.toNat*7)).block,(p.add (n.toNat*7)).off+6,none⟩ h K:=by
 obtain⟨C,y,a⟩:=a;exact a.ldHalted r hl j
theorem Has.isBond(a:Has k b who c h l){Q:Bool->Hp->Prop}(j:Q (Go.Proofs.YtkmniidiifpdgaaGreat.isBond c.d n) h):cx 56 [vp k.p,vi n] cB h Q:=by obtain⟨C,r,a⟩:=a;exact ZTS a j
theorem ZBo:isBond S n=true↔0<=n/\n<S.books.length:=Vx
variable {m:Msg}
theorem ZWO(a:Has k b who c h l)(i:WOk N c.d)(Y:N<=9000)(I:0<=who/\who<8)(W:c.outs.length<=500000)(j:∀ h',Has k b who (ZCt c who m).1 h' l->Q (ZCt c who m).2 h'):
 cx 200 [vp k.p,vp (sj b),ZAk.enc m] ci h Q:=by
 refine c200 ?_;unfold ZCt at j;have V:=i.c1;refine⟨by decide,by decide,by decide,by decide,by decide,by decide,by decide,by decide,by decide,by decide,?_⟩;refine a.isBond (ZD (λe=>?_) λe=>?_)
 .rw [Xe (by simpa using e)]at j;exact j h a
 have e:isBond c.d m.F_0=true:=by simpa using e
 rw[Xd (by rw[e];simp)]at j;refine ZI (λt h'=>h'=h/\t=decide (ZAd m.F_1=false\/m.F_4<0\/4<m.F_4)) ?_ λJ z=>?_
 .rintro t h' ⟨rfl,rfl⟩;refine ZG (λE=>?_) λE=>?_
  .rw [Xe E]at j;exact j h' a
  rw[Xd E]at j;dsimp only[ZM,DK.p];have Z:=i.bonds _ (ZBB e i.bl).1;refine a.ldBond e i.bl ?_;refine ZXr (x:=ZAL c.d m.F_0) (by omega) (by omega) ?_;refine ZD (λF=>?_) λF=>?_
  .rw [Xe (by simpa using F)]at j;exact j h' a
  rw[Xd (by simpa using F)]at j;refine ZK (cd:=ci) (x:=c.d.order) a.ob (i:=12) rfl ?_;refine a.ldWho ?_;rw[w64 (by omega) (by omega)];have G:=ZDC c who m.F_0 (ZAh c who m) m.F_4;refine ZLS (o:=ZAh c who m) (how:=m.F_4) a i (by omega) (ZBo.1 e) I I W λM a4=>?_;generalize ZAJ c who m.F_0 (ZAh c who m) m.F_4=r at j a4 G;have H:r.1.d.order=c.d.order:=by rw[G.1]
  refine ZD (λy=>?_) λy=>?_
  .have y:r.2=0:=by simpa using y
   rw[Xe y]at j;rw[y];refine ZK (cd:=ci) (x:=r.1.d.order) a4.ob (i:=12) rfl ?_;rw[w64 (by omega) (by omega)];refine a4.setOrder λX a5=>?_;refine ZK (cd:=ci) (x:=r.1.d.order+1) a5.ob (i:=12) rfl ?_;exact a5.setId λO a6=>j O a6
  .rw [Xd (by simpa using y)]at j;exact j M a4
 .refine ZDP (ZD (λe=>z _ _ ⟨rfl,?_⟩) λe=>ZG (λL=>z _ _ ⟨rfl,?_⟩) λL=>z _ _ ⟨rfl,?_⟩)
  .rw [XA];simp_all
  .rw [XA];simp_all
  .have e:ZAd m.F_1=true:=by simpa using e
   exact XE.2 (by rw[e];simp;omega)
theorem ZTy(a:Has k b who c h l)(i:WOk N c.d)(hN:N<=9000)(hw:0<=who/\who<8)(ho:c.outs.length<=500000)(L:isBond c.d n=true)(hx:0<=x.Owner/\x.Owner<8)(y:∀ h',Has k b who (ZCN c who n x price qty).1 h' l->Q (ZCN c who n x price qty).2 h'):
 cx 204 [vp k.p,vp (sj b),vi n,ZF.enc x,vi price,vi qty] ci h Q:=by
 refine c204 ?_;unfold ZCN at y;dsimp only[ZM,DK.p];have hb:=i.bonds _ (ZBB L i.bl).1;have r:=ZBo.1 L;refine a.ldBond L i.bl ?_;refine ZOm (b:=ZAL c.d n) (by omega) (by omega) ?_;refine ZD (λI=>?_) λI=>?_
 .rw [Xe (by simpa using I)]at y;exact y h a
 rw[Xd (by simpa using I)]at y;have z:=ZCV i r;have j:=ZBC r;refine ZI (λt h'=>h'=h/\t=decide (price=x.Price/\qty<=x.Left)) ?_ λJ W=>?_
 .rintro t h' ⟨rfl,rfl⟩;obtain⟨G,rfl⟩:=Wd r.1;have hm:G<c.d.books.length:=by omega
  have j:Zj c.d ((G:Nat):Int)=c.d.books[G]:=j;obtain⟨C,Y,a⟩:=a;obtain⟨cb,R,q,X,M,F,V⟩:=a.book hm;rw[<-j]at M;refine ZG (λH=>?_) λH=>?_
  .rw [Xe H]at y;refine F ?_;refine ZPL (left:=qty) X M (by have:=z.2.2.1;omega) λc2 E o2 O=>?_;exact y E ⟨C,Y,V E c2 _ _ o2 O⟩
  .rw [Xd H]at y;refine F ?_;refine ZFk X M (by have:=z.2.2.1;omega) λc2 E o2 O=>?_;have Z:Has k b who {c with d:=ZAb c.d (G:Int) (ZAE (Zj c.d (G:Int)) x.ID)} E l:=⟨C,Y,V E c2 _ _ o2 O⟩
   refine ZLS (o:=ZA0 x price qty) (how:=0) Z (i.book (z.sub (ZAG _ _))) (by omega) (by show 0<=_/\_<((List.set _ _ _).length:Int);rw[Xp];exact r) hw hx ho λh3 a3=>?_;exact y h3 a3
 .refine ZD (λe=>W _ _ ⟨rfl,?_⟩) λe=>W _ _ ⟨rfl,?_⟩
  .have e:price=x.Price:=by simpa using e
   exact XE.2 ⟨λh=>⟨e,h⟩,λh=>h.2⟩
  .have e:¬price=x.Price:=by simpa using e
   exact(Xj λh=>e h.1).symm
theorem Z7.book2(a:Z7 k S h l)(hi:i<S.books.length):k.sk.len=S.books.length/\∃ c R q,On h (c::R::l)/\Zp q S.books[i] c/\(∀ {K:Option Addr->Prop},K q->Zb k.sk.a k.sk.len (i:Int) λa=>ZC cP (a.add ((i:Int).toNat*1)) h K)/\
 ∀ h' z l' x,On h' (z::R::l')->Zp q x z->Z7 k {S with books:=S.books.set i x} h' l':=by
 obtain⟨D,o,w⟩:=a;obtain⟨dB,dP,H,cF,X,O,V,W,Y,ks,cs,L,wB,wP,y,wF,wQ,wA,wD,wO,wT,wb⟩:=w;obtain⟨j,E,r⟩:=wb;have I:cs[i]?=some cs[i]:=Xa (by omega);have G:ks[i]?=some ks[i]:=Xa (by omega);have hx:S.books[i]?=some S.books[i]:=Xa hi;obtain⟨R,o1,_,F⟩:=ZJs o L (i:=i+10) I;refine⟨by rw[<-j];exact y.1,cs[i],R,ks[i],o1,r i _ _ _ G hx I,λ{K} hK=>?_,λh' z l' x o' w'=>?_⟩
 .have Z:D.sub h:=o.mem (by simp);have:=y.1;refine ZN y.row (Xb i) (by omega) λa ha=>?_;exact ZQ y.row (Hp.sub_trans (L.mem (c:=H) (by simp)) Z) rfl ha (i:=i) G rfl hK
 .obtain ⟨M,o2,o3⟩:=F h' _ l' o';exact⟨M,o2,dB,dP,H,cF,X,O,V,W,Y,ks,cs.set i z,o3,wB,wP,y,wF,wQ,wA,wD,wO,wT,Books.set ⟨j,E,r⟩ G w'⟩
theorem ZMm{id:Int}(a:Z7 k S h (Go.Eng.ob k1 [vi id] 2::l))(hb:∀ x∈S.books,x.length<=1000)(hl:S.books.length<=1000)(r:∀ h',Z7 k S h' (Go.Eng.ob k1 [vi id] 2::l)->Q (ZMT (ZAT S id)) h'):
 cx 201 [Value.slice k.sk.a k.sk.len k.sk.cap,Value.func (Fn.func 202) #[] #[vp (sj k1)]] ci h Q:=by
 refine c201 (s:=k.sk) (d:=⟨202,#[],#[vp (sj k1)]⟩) ?_;have V:k.sk.len=S.books.length:=by obtain⟨D,o,dB,dP,dK,cF,cQ,cA,cD,cO,cT,ks,cs,oc,wB,wP,wK,wF,wQ,wA,wD,wO,wT,wb⟩:=a;rw[<-wb.1];exact wK.1
 refine Zc (λz h'=>∃ i:Nat,z=(i:Int)/\i<=S.books.length/\Z7 k S h' (Go.Eng.ob k1 [vi id] 2::l)/\∀ j (F:j<S.books.length),j<i->(ZKh S.books[j] id).isSome=false) (λz=>S.books.length-z.toNat)
  ⟨0,rfl,Xh _,a,λj _ F=>by omega⟩ ?_
 rintro J z Z y ⟨i,rfl,hi,O,G⟩
 refine ZG (λhlt=>?_) λhge=>?_
 ·have E:i<S.books.length:=by omega
  obtain⟨_,cb,R,q,W,w1,M,X⟩:=O.book2 E;refine M ?_;refine⟨⟨Tryz.f202,_,Tryz.func202,rfl⟩,?_⟩;refine c202 ?_;refine ZL (cd:=ci) (x:=id) W 2 (i:=0) rfl rfl ?_;refine ZSk W w1 (hb _ (Xs E)) λc2 L o2 w2=>?_;have H:=X L c2 _ _ o2 w2;rw[WH]at H;have H:Z7 k S L (Go.Eng.ob k1 [vi id] 2::l):=H;have Y:(ZIg S.books[i] id).2=(ZKh S.books[i] id).isSome:=by unfold ZIg;cases ZKh S.books[i] id<;>rfl
  rw[Y];refine ZD (λe=>?_) λe=>?_
  .have I:ZAT S id=some i:=by unfold ZAT;rw[WA];exact⟨E,e,λj F=>by rw[G j (by omega) F];simp⟩
   have r:=r L H;rw[I]at r;exact r
  .rw [Z1 (by omega)];refine y _ _ ⟨i+1,rfl,by omega,H,λj F hji=>?_⟩ (by omega);rcases WB j i with h'|h'
   .exact G j F h'
   .have:j=i:=by omega
    subst this;exact e
 .have I:ZAT S id=none:=by unfold ZAT;rw[WL];intro x hx;obtain⟨j,F,rfl⟩:=List.mem_iff_getElem.1 hx;exact G j F (by omega)
  have r:=r Z O;rw[I]at r;exact r
theorem ZDu{id:Int}{n:Nat}(r:ZAT S id=some n):∃ (y:n<S.books.length) (x:ZE),ZKh S.books[n] id=some x/\x∈S.books[n]/\x.ID=id/\ZIg (Zj S n) id=(x,true):=by unfold ZAT at r;obtain⟨y,z,_⟩:=WA.1 r;obtain⟨x,j⟩:=Vg.1 z;have F:=Yq j;have E:=VT j;refine⟨y,x,j,F,by simpa using E,?_⟩;rw[ZBC (S:=S) (n:=(n:Int)) ⟨Xb _,by omega⟩];unfold ZIg;show (match ZKh S.books[n] id with|none=>(ZQm,false)|some o=>(o,true))=_;rw[j]
theorem ZRN(a:Has k b who c h l)(i:WOk N c.d)(hN:N<=9000)(V:0<=who/\who<8)(ho:c.outs.length<=500000)(j:∀ h',Has k b who (ZAw c who m).1 h' l->Q (ZAw c who m).2 h'):
 cx 131 [vp k.p,vp (sj b),ZAk.enc m] ci h Q:=by
 refine c131 ?_;unfold ZAw at j;refine ZD (λe=>?_) λe=>?_
 .rw [Xe (by simpa using e)]at j;exact ZWO a i hN V ho j
 rw[Xd (by simpa using e)]at j;refine⟨by decide,by decide,?_⟩;refine a.new (vs:=[vi 0]) λk1 h1 a1=>?_;obtain⟨C,wc,D1,o1,w1⟩:=a1;refine ZX (cd:=ci) (i:=0) (x:=m.F_0) (vs':=[vi m.F_0]) (o1.pick [2,0,1] 3) rfl rfl (Xc 1) λh2 o2=>?_;have X:Z7 k c.d h2 (Go.Eng.ob k1 [vi m.F_0] 2::C::l):=⟨D1,o2.swap,w1⟩
 dsimp only[ZM,DK.p];refine ZK (cd:=cSl) (x:=k.sk) X.ob (i:=5) rfl ?_;refine ZMm X (λx hx=>by have:=(i.books x hx).2.2.1;omega) (by have:=i.bl4;omega) λY a3=>?_;have G:Has k b who c Y (Go.Eng.ob k1 [vi m.F_0] 2::l):=⟨C,wc,a3.perm (Xt _ _ _)⟩
 have hbl:=i.bl4;cases M:ZAT c.d m.F_0 with
 | none=>
   rw[M]at j;exact Zf rfl (j Y G.drop)
 | some n=>
   rw[M]at j;dsimp only at j;obtain⟨O,x,hx,hxm,hxi,hR⟩:=ZDu M;have F:Zj c.d ((n:Nat):Int)=c.d.books[n]:=ZBC (S:=c.d) (n:=(n:Int)) ⟨Xb _,by omega⟩;have E:=i.books _ (Xs O);rw[hR]at j;dsimp only at j;refine ZU (Xj (by show ¬((n:Nat):Int)<0;omega)) ?_;obtain⟨cb,R,q,o4,w4,r,H⟩:=a3.book O;refine r ?_;refine ZL (cd:=ci) (x:=m.F_0) o4 2 (i:=0) rfl rfl ?_;refine ZSk o4 w4 (by have:=E.2.2.1;omega) λc5 L o5 w5=>?_;have a5:=H L c5 _ _ o5 w5;rw[WH]at a5;have a5:Has k b who c L (Go.Eng.ob k1 [vi m.F_0] 2::l):=⟨C,wc,a5.perm (Xt _ _ _)⟩
   rw[<-F,hR];refine a5.ldWho ?_;refine ZD (λy=>?_) λy=>?_
   .rw [Xe (by simpa using y)]at j;exact j L a5.drop
   rw[Xd (by simpa using y)]at j;have y:x.Owner=who:=by simpa using y
   refine ZK (cd:=ci) (x:=m.F_0) (a5.sub (g:=Go.Eng.ob k1 [vi m.F_0] 2) (by simp)) (i:=0) rfl ?_;refine a5.setId λh6 a6=>?_;refine ZD (λI=>?_) λI=>?_
   .rw [Xe (by simpa using I)]at j;refine⟨by decide,by decide,by decide,by decide,?_⟩;exact ZTy (c:={c with id:=m.F_0}) (n:=(n:Int)) (x:=x) a6.drop i hN V ho (ZBo.2 ⟨Xb _,by show ((n:Nat):Int)<c.d.books.length;omega⟩) (by rw[y];exact V) j
   rw[Xd (by simpa using I)]at j;obtain⟨C6,W,a6⟩:=a6;obtain⟨cb,R,q,o7,w7,r,H⟩:=a6.book O;refine r ?_;refine ZL (cd:=ci) (x:=m.F_0) o7 3 (i:=0) rfl rfl ?_;refine ZFk o7 w7 (by have:=E.2.2.1;show c.d.books[n].length<=1000;omega) λc8 Z o8 w8=>?_;have z:=H Z c8 _ _ o8 w8;have z:Has k b who {c with id:=m.F_0,d:=ZAb c.d (n:Int) (ZAE (Zj c.d (n:Int)) m.F_0)} Z (Go.Eng.ob k1 [vi m.F_0] 2::l):=⟨C6,W,by rw[F];exact z⟩
   refine z.ldWho ?_;refine ZK (cd:=ci) (x:=m.F_0) (z.sub (g:=Go.Eng.ob k1 [vi m.F_0] 2) (by simp)) (i:=0) rfl ?_;refine ZB3 (ns:=[m.F_0,x.Left]) z (by simp) (by show c.outs.length<=_;omega) λh9 a9=>?_;exact j h9 a9.drop
theorem ZY2(a:Has k b who c h l)(i:WOk N c.d)(j:∀ h',Has k b who (ZFz c n is).1 h' l->Q (ZFz c n is).2 h'):
 cx 137 [vp k.p,vp (sj b),vi n,vi is] ci h Q:=by
 refine c137 ?_;unfold ZFz at j;refine a.isBond (ZD (λe=>?_) λe=>?_)
 .rw [Xe (by simpa using e)]at j;exact j h a
 have e:isBond c.d n=true:=by simpa using e
 rw[Xd (by rw[e];simp)]at j;refine ZI (λt h'=>h'=h/\t=decide (is≠0/\is≠1)) ?_ λJ F=>?_
 .rintro t h' ⟨rfl,rfl⟩;refine ZG (λz=>?_) λz=>?_
  .rw [Xe z]at j;exact j h' a
  rw[Xd z]at j;dsimp only[ZM,DK.p];refine ZK (cd:=cSl) (x:=k.sb) a.ob (i:=0) rfl ?_;obtain⟨_,L,h1,V⟩:=ZBB e i.bl;obtain⟨C,Z,a⟩:=a;obtain⟨cb,R,W,r,I⟩:=a.bonds;have G:=r.1;have O:=i.bl;refine ZN r.row L (by omega) λp H=>?_;rw[r.part_at H];refine Zz (cd:=Zs) (cf:=cB) W rfl rfl r H (i:=n.toNat) (x0:=ZAL c.d n) V rfl (k:=6) (y:=is==1) (x':=ZWD is (ZAL c.d n)) rfl (by decide) λc3 E X Y=>?_;have a3:Has k b who {c with d:={c.d with bonds:=c.d.bonds.set n.toNat (ZWD is (ZAL c.d n))}} E l:=⟨C,Z,I E c3 _ _ X Y⟩
  exact a3.setId λM a4=>j M a4
 .refine ZD (λe=>F _ _ ⟨rfl,?_⟩) λe=>F _ _ ⟨rfl,?_⟩
  .have e:is≠0:=by simpa using e
   rw[XA];simp[e]
  .have e:is=0:=by simpa using e
   rw[XA];simp[e]
theorem Z7.getA{id:Int}(a:Z7 k S h l)(i:WOk N S)(F:N<=10000){Q:Ask×Bool->Hp->Prop}(y:∀ h',Z7 k S h' l->Q (ZKg ZQH (Go.Proofs.YtkmniidiifpdgaaGreat.getA S.asks id)) h'):cx 81 [vp k.pa,vi id] (ZV [Zx,cB]) h Q:=by obtain⟨E,R,o,w,r⟩:=a.asks;exact ZXp o w i.sa (by have:=i.l2;omega) λj h' z w'=>y h' (r h' j _ _ z w')
theorem Z7.getQ{id:Int}(a:Z7 k S h l)(i:WOk N S)(F:N<=10000){Q:Za×Bool->Hp->Prop}(y:∀ h',Z7 k S h' l->Q (ZKg ZNO (Go.Proofs.YtkmniidiifpdgaaGreat.getQ S.quotes id)) h'):cx 210 [vp k.pq,vi id] (ZV [ZP,cB]) h Q:=by obtain⟨E,R,o,w,r⟩:=a.quotes;exact ZUH o w i.qs (by have:=i.l1;omega) λj h' z w'=>y h' (r h' j _ _ z w')
variable {Q:Bool->Hp->Prop}
theorem Z7.killQ{id:Int}(a:Z7 k S h l)(i:WOk N S)(F:N<=10000)(y:∀ t h',Z7 k {S with quotes:=Go.Proofs.YtkmniidiifpdgaaGreat.killQ S.quotes id} h' l->Q t h'):cx 82 [vp k.pq,vi id] cB h Q:=by obtain⟨E,R,o,w,r⟩:=a.quotes;exact ZNy o w i.qs (by have:=i.l1;omega) λj h' z w'=>y _ h' (r h' j _ _ z w')
theorem Z7.dropDue{id:Int}(a:Z7 k S h l)(y:S.due<=1000000)(z:∀ t h',Z7 k S h' l->Q t h'):cx 89 [vp k.pd,vi kd,vi id] cB h Q:=by obtain⟨F,R,o,w,r⟩:=a.dues;exact ZU8 o w y λt j h' E w'=>z t h' (r h' j _ S.due E w')
theorem Z7.addDue{x:Due}(a:Z7 k S h l)(y:S.due<=1000000)(z:∀ t h',Z7 k {S with due:=S.due+1} h' l->Q t h'):cx 209 [vp k.pd,ZAs.enc x] cB h Q:=by obtain⟨F,R,o,w,r⟩:=a.dues;exact ZX0 o w y λt j h' E w'=>z t h' (r h' j _ _ E w')
theorem WOk.due(i:WOk N S)(j:N<=10000):S.due<=1000000:=by have:=i.l3;omega
theorem ZMt{id:Int}(a:Has k b who c h l)(i:WOk N c.d)(E:N<=10000){Q:Ask×Int->Hp->Prop}(j:∀ h',Has k b who c h' l->Q (ZB5 c.d who id) h'):
 cx 211 [vp k.p,vp (sj b),vi id] (ZV [Zx,ci]) h Q:=by
 refine c211 ?_;unfold ZB5 at j;dsimp only[ZM,DK.p];refine ZK (cd:=cP) (x:=k.pa) a.ob (i:=8) rfl ?_;obtain⟨C,F,a⟩:=a;refine a.getA i E λy r=>?_;have r:Has k b who c y l:=⟨C,F,r⟩
 cases z:getA c.d.asks id with
 | none=>
   rw[z]at j;exact Zf rfl (j y r)
 | some x=>
   rw[z]at j;dsimp only[ZKg]at j⊢;refine ZU rfl ?_;refine r.ldWho ?_;refine ZD (λe=>?_) λe=>?_
   .rw [Xe (by simpa using e)]at j;exact j y r
   rw[Xd (by simpa using e)]at j;refine ZD (λe=>?_) λe=>?_
   .rw [Xe (by simpa using e)]at j;exact j y r
   rw[Xd (by simpa using e)]at j;exact j y r
theorem ZHw(a:Z7 k S h l)(i:WOk N S)(E:N<=10000)(j:∀ h',Z7 k S h' l->Q (ZFW S q) h'):cx 88 [vp k.p,ZP.enc q] cB h Q:=by
 refine c88 ?_;unfold ZFW at j;dsimp only[ZM,DK.p];refine ZK (cd:=cP) (x:=k.pa) a.ob (i:=8) rfl ?_;refine a.getA i E λy r=>?_;cases z:getA S.asks q.Ask with
 | none=>
   rw[z]at j;exact ZU rfl (j y r)
 | some x=>
   rw[z]at j;dsimp only[ZKg]at j⊢;refine Zf rfl (ZD (λe=>?_) λe=>?_)
   .rw [e]at j;exact j y r
   .rw [e]at j;exact j y r
theorem ZKu(j:Q (ZJ4 n) h):cx 207 [vi n] cB h Q:=by refine c207 ?_;exact ZJ0 j
variable {Q:Int->Hp->Prop}{x:Ask}
theorem ZI2(a:Z7 k S h l)(i:WOk N S)(H:isBond S x.Bond=true)(O:q.Price<=1000000)(V:x.Qty<=1000000)(y:∀ h',Z7 k S h' l->Q (ZCQ S x q) h'):
 cx 215 [vp k.p,Zx.enc x,ZP.enc q] ci h Q:=by
 refine c215 ?_;unfold ZCQ at y;dsimp only[ZM,DK.p];refine a.ldHalted H i.bl ?_;refine ZD (λe=>?_) λe=>?_
 .rw [Xe e]at y;exact y h a
 rw[Xd (by rw[e];simp)]at y;have E:=ZBo.1 H;have r:=ZCV i E;have j:=ZBC E;generalize x.Bond=n at*;obtain⟨m,rfl⟩:=Wd E.1;have M:m<S.books.length:=by omega
 have j:Zj S ((m:Nat):Int)=S.books[m]:=j;obtain⟨cb,R,p,W,I,z,L⟩:=a.book M;refine z ?_;rw[<-j]at I;refine ZYg W I r.1 r.2.1 (by have:=r.2.2.1;omega) O V λc2 G o2 X=>?_;have F:=L G c2 _ _ o2 X;rw[j,WH]at F;exact y G F
theorem ZPM{id:Int}(a:Z7 k S h l)(i:WOk N S)(Y:N<=10000){Q:PUnit->Hp->Prop}(hq:∀ h',Z7 k {S with quotes:=ZJI S.quotes id} h' l->Q ⟨⟩ h'):cx 144 [vp k.p,vi id] (ZV []) h Q:=by
 refine c144 ?_;have E:=i.due Y;have H:=i.l1;dsimp only[ZM,DK.p];refine ZK (cd:=cP) (x:=k.pq) a.ob (i:=7) rfl ?_;obtain⟨cq,R,o1,w1,O⟩:=a.quotes;refine ZRo o1 w1 (by omega) λs c2 d2 V o2 w2 y=>?_;have M:=O V c2 _ _ o2.rot3.swap w2;have F:(S.quotes.filter λx=>x.Ask==id).length<=N:=XG (Wj _ _) H;generalize I:(S.quotes.filter λx=>x.Ask==id).map Za.ID=ys at y;have hyl:ys.length<=N:=by rw[<-I,We];exact F
 have L:=y.1;refine Zc (λz h'=>∃ j:Nat,z=(j:Int)/\j<=ys.length/\Z7 k {S with quotes:=ZJI S.quotes id} h' (d2::l)) (λz=>ys.length-z.toNat) ⟨0,rfl,Xh _,M⟩ ?_;rintro J z h3 r ⟨j,rfl,hj,a3⟩
 refine ZG (λab=>?_) λZ=>?_
 .have G:j<ys.length:=by omega
  refine ZN y.row (Xb j) (by omega) λp hp=>ZQ y.row (a3.sub (by simp)) rfl hp (i:=j) (Xa G) (by rfl) ?_;refine ZK (cd:=cP) (x:=k.pd) a3.ob (i:=9) rfl ?_;refine a3.dropDue E λt W a4=>?_;rw[Z1 (by omega)];exact r _ _ ⟨j+1,rfl,by omega,a4⟩ (by omega)
 .refine ZK (cd:=cP) (x:=k.pd) a3.ob (i:=9) rfl ?_;refine a3.dropDue E λt W a4=>?_;refine ZK (cd:=cP) (x:=k.pd) a4.ob (i:=9) rfl ?_;exact a4.dropDue E λt X a5=>hq X a5.drop
theorem ZW8{id st:Int}(a:Z7 k S h l)(i:WOk N S)(F:N<=10000)(y:∀ n h',Z7 k {S with asks:=(ZRe S.asks id st).1} h' l->Q n h'):cx 143 [vp k.pa,vi id,vi st] ci h Q:=by obtain⟨E,R,o,w,r⟩:=a.asks;exact ZZJ o w i.sa (by have:=i.l2;omega) λj h' z w'=>y _ h' (r h' j _ _ z w')
theorem ZNV(a:Has k b who c h l)(i:WOk N c.d)(j:N<=10000)(E:c.outs.length<=1000000){Q:PUnit->Hp->Prop}(F:∀ h',Has k b who (ZJy c x) h' l->Q ⟨⟩ h'):
 cx 84 [vp k.p,vp (sj b),Zx.enc x] (ZV []) h Q:=by
 refine c84 ?_;dsimp only[ZM,DK.p];refine ZK (cd:=cP) (x:=k.pa) a.ob (i:=8) rfl ?_;obtain⟨C,G,a⟩:=a;refine ZW8 a i j λn H r=>?_;refine ZPM r (i.end x.ID 4) j λy a3=>?_;have a3:Has k b who (ZW1 c x.ID 4) y l:=⟨C,G,a3⟩
 exact ZB3 (ns:=[x.ID]) a3 (by simp) E λz a4=>F z a4
theorem ZHS(a:Has k b who c h l)(i:WOk N c.d)(E:N<=10000)(F:c.outs.length<=1000000){Q:PUnit->Hp->Prop}(j:∀ h',Has k b who (ZAQ c x) h' l->Q ⟨⟩ h'):
 cx 83 [vp k.p,vp (sj b),Zx.enc x] (ZV []) h Q:=by
 refine c83 ?_;unfold ZAQ at j;dsimp only[ZM,DK.p];refine ZK (cd:=cP) (x:=k.pq) a.ob (i:=7) rfl ?_;obtain⟨C,H,a⟩:=a;refine a.killQ i E λt L r=>?_;have y:Has k b who (ZGa c x.Hit) L l:=⟨C,H,r⟩
 have G:WOk N (ZGa c x.Hit).d:=i.kill x.Hit;refine ZK (cd:=ci) (x:=c.d.now) r.ob (i:=4) rfl ?_;refine ZG (λe=>?_) λe=>?_
 .rw [Xe (by omega)]at j;exact ZNV y G E F j
 .rw [Xd (by omega)]at j;refine ZK (cd:=cP) (x:=k.pa) r.ob (i:=8) rfl ?_;obtain⟨Y,R,O,W,I⟩:=r.asks;refine ZU5 O W G.sa (by have:=i.l2;show c.d.asks.length<=_;omega) λc4 z V X=>?_;have a4:Has k b who {ZGa c x.Hit with d:={(ZGa c x.Hit).d with asks:=(ZG3 c.d.asks x.ID).1}} z l:=⟨C,H,I z c4 _ _ V X⟩
  exact ZB3 (ns:=[x.ID,x.Hit]) a4 (by simp) F λM a5=>j M a5
theorem ZX9{id:Int}(a:Has k b who c h l)(i:WOk N c.d)(z:N<=10000)(G:c.outs.length<=1000000)(j:∀ h',Has k b who (ZGh c who id).1 h' l->Q (ZGh c who id).2 h'):
 cx 135 [vp k.p,vp (sj b),vi id] ci h Q:=by
 refine c135 ?_;unfold ZGh at j;refine ZMt a i z λE y=>?_;generalize ZB5 c.d who id=r at j⊢;refine ZD (λe=>?_) λe=>?_
 .have e:r.2=0:=by simpa using e
  rw[Xe e]at j;rw[e];dsimp only[ZM];refine y.setId λH a3=>?_;exact ZNV (c:={c with id:=id}) a3 i z G λF a4=>j F a4
 .rw [Xd (by simpa using e)]at j;exact j E y
theorem ZXZ{id:Int}(a:Has k b who c h l)(i:WOk N c.d)(I:N<=10000)(j:∀ h',Has k b who (ZIM c who id).1 h' l->Q (ZIM c who id).2 h'):
 cx 205 [vp k.p,vp (sj b),vi id] ci h Q:=by
 refine c205 ?_;unfold ZIM at j;dsimp only[ZM,DK.p];refine ZK (cd:=cP) (x:=k.pq) a.ob (i:=7) rfl ?_;obtain⟨C,M,a⟩:=a;refine a.getQ i I λz F=>?_;have r:Has k b who c z l:=⟨C,M,F⟩
 cases L:getQ c.d.quotes id with
 | none=>
   rw[L]at j;exact Zf rfl (j z r)
 | some x=>
   rw[L]at j;dsimp only[ZKg]at j⊢;refine ZU rfl ?_;refine r.ldWho ?_;refine ZD (λe=>?_) λe=>?_
   .rw [Xe (by simpa using e)]at j;exact j z r
   rw[Xd (by simpa using e)]at j;refine ZHw F i I λG a3=>?_;have y:Has k b who c G l:=⟨C,M,a3⟩
   refine ZD (λe=>?_) λe=>?_
   .rw [Xe e]at j;exact j G y
   rw[Xd (by rw[e];simp)]at j;refine y.setId λh4 a4=>?_;refine ZK (cd:=cP) (x:=k.pq) a4.ob (i:=7) rfl ?_;refine a4.ldWho ?_;obtain⟨O,E,a4⟩:=a4;obtain⟨cq,R,X,Z,W⟩:=a4.quotes;exact ZWs X Z i.qs (by have:=i.l1;show c.d.quotes.length<=_;omega) λV H Y w6=>j H ⟨O,E,W H V _ _ Y w6⟩
theorem ZSj(a:Has k b who c h l)(i:WOk N c.d)(Y:N<=10000)(ho:c.outs.length<=1000000)(Z:isBond c.d x.Bond=true)(H:q.Price<=1000000)(I:x.Qty<=1000000)(j:∀ h',Has k b who (ZMV c x q).1 h' l->Q (ZMV c x q).2 h'):cx 212 [vp k.p,vp (sj b),Zx.enc x,ZP.enc q] ci h Q:=by
 refine c212 ?_;unfold ZMV at j;refine ZI (λt h'=>h'=h/\t=decide (q.Live=false\/q.Expires<=c.d.now)) ?_ λJ G=>?_
 .rintro t h' ⟨rfl,rfl⟩;refine ZG (λz=>?_) λz=>?_
  .rw [Xe z]at j;exact j h' a
  rw[Xd z]at j;obtain⟨C,y,a⟩:=a;refine ZI2 a i Z H I λE r=>?_;refine ZD (λe=>?_) λe=>?_
  .rw [Xe (by simpa using e)]at j;exact j E ⟨C,y,r⟩
  rw[Xd (by simpa using e)]at j;dsimp only[ZM,DK.p];refine ZK (cd:=cP) (x:=k.pf) r.ob (i:=6) rfl ?_;obtain⟨D,W,wD⟩:=r.dsub;obtain⟨cF,X,wF⟩:=wD.firm_sub W;refine ZYE X wF H I ?_;refine ZD (λe=>?_) λe=>?_
  .rw [Xe (by simpa using e)]at j;exact j E ⟨C,y,r⟩
  rw[Xd (by simpa using e)]at j;refine ZK (cd:=ci) (x:=c.d.now) r.ob (i:=4) rfl ?_;refine ZK (cd:=ci) (x:=c.d.look) r.ob (i:=2) rfl ?_;refine ZK (cd:=cP) (x:=k.pa) r.ob (i:=8) rfl ?_;obtain⟨ca,R,o3,w3,M⟩:=r.asks;refine ZV4 (id:=x.ID) (q:=q.ID) (u:=ZES c.d) o3 w3 i.sa (by have:=i.l2;omega) λc4 F o4 w4=>?_;have a4:=M F c4 _ _ o4 w4;refine ZD (λe=>?_) λe=>?_
  .have e:(ZD2 c.d.asks x.ID q.ID (ZES c.d)).2≠0:=by simpa using e
   rw[Xe e]at j;rw[ZQI e]at a4;exact j F ⟨C,y,a4⟩
  rw[Xd (by simpa using e)]at j;refine ZK (cd:=cP) (x:=k.pd) a4.ob (i:=9) rfl ?_;refine Z7.addDue (x:=⟨ZES c.d,2,x.ID⟩) a4 (i.due Y) λt O a5=>?_;have a5:Has k b who {c with d:={c.d with asks:=(ZD2 c.d.asks x.ID q.ID (ZES c.d)).1,due:=c.d.due+1}} O l:=⟨C,y,a5⟩
  refine a5.setId λh6 a6=>?_;exact ZB3 (ns:=[x.ID,q.ID,ZES c.d]) a6 (by simp) ho λV L=>j V L
 .dsimp only[ZM,DK.p];refine ZD (λe=>G _ _ ⟨rfl,?_⟩) λe=>ZK (cd:=ci) (x:=c.d.now) a.ob (i:=4) rfl (G _ _ ⟨rfl,?_⟩)
  .rw [XA];simp_all
  .have e:q.Live=true:=by simpa using e
   exact XE.2 (by rw[e];simp)
theorem ZFt(i:WOk N S)(j:a∈S.asks):isBond S a.Bond=true/\a.Qty<=1000000/\0<=a.Client/\a.Client<8:=by have:=i.ai a j;exact⟨ZBo.2 ⟨this.2.2.1,this.2.2.2.1⟩,this.2.2.2.2.2.1,this.2.2.2.2.2.2⟩
theorem ZEd{id:Int}(h:(ZB5 S who id).2=0):(ZB5 S who id).1∈S.asks/\(ZB5 S who id).1.Client=who/\(ZB5 S who id).1.State=1/\getA S.asks id=some (ZB5 S who id).1:=by
 unfold ZB5 at*;cases y:getA S.asks id with
 | none=>rw[y]at h;cases h
 | some a=>
   rw[y]at h;dsimp only at h⊢;by_cases j:a.Client≠who
   .rw [Xe j]at h;cases h
   rw[Xd j]at h⊢;by_cases r:a.State≠1
   .rw [Xe r]at h;cases h
   rw[Xd r];exact⟨(ZDk y).1,WF.1 j,WF.1 r,rfl⟩
theorem ZN5(h:(ZL3 s qs).2=true):(ZL3 s qs).1∈qs:=by
 cases qs with
 | nil=>cases h
 | cons q t=>
   unfold ZL3 at h⊢;dsimp only at h⊢;split at h
   .cases h
   ·rename_i z;rw[Xd z];dsimp only
    have key:∀ (l:List Za) (b:Za),(∀ x∈l,x∈q::t)->b∈q::t->l.foldl (ZKs s) b∈q::t:=by
     intro l;induction l with
     | nil=>intro b _ j;exact j
     | cons y l E=>
       intro b hl j;refine E (ZKs s b y) (λx r=>hl x (by simp[r])) ?_;unfold ZKs;split
       .exact hl y (by simp)
       .exact j
    exact key (q::t) q (λx r=>r) (by simp)
theorem ZY8(a:Has k b who c h l)(i:WOk N c.d)(z:N<=10000)(V:c.outs.length<=1000000)(j:∀ h',Has k b who (ZGK c who m).1 h' l->Q (ZGK c who m).2 h'):
 cx 133 [vp k.p,vp (sj b),ZAk.enc m] ci h Q:=by
 refine c133 ?_;unfold ZGK at j;dsimp only[ZM,DK.p];refine ZD (λe=>?_) λe=>?_
 ·rw[Xe (by simpa using e)]at j;refine⟨by decide,by decide,?_⟩;refine ZK (cd:=cP) (x:=k.pq) a.ob (i:=7) rfl ?_;obtain⟨C,M,a⟩:=a;refine a.getQ i z λO E=>?_;have E:Has k b who c O l:=⟨C,M,E⟩
  cases I:getQ c.d.quotes m.F_0 with
  | none=>
    rw[I]at j;exact Zf rfl (j O E)
  | some q=>
    rw[I]at j;dsimp only[ZKg]at j⊢;refine ZU rfl ?_;refine ZMt E i z λF a3=>?_;refine ZD (λe=>?_) λe=>?_
    .rw [Xe (by simpa using e)]at j;exact j F a3
    rw[Xd (by simpa using e)]at j;obtain⟨L,_⟩:=ZEd (S:=c.d) (who:=who) (id:=q.Ask) (by simpa using e);obtain⟨r,y,_⟩:=ZFt i L;exact ZSj (x:=(ZB5 c.d who q.Ask).1) (q:=q) a3 i z V r (i.qi q (ZKL I).1).2.2.1 y j
 .rw [Xd (by simpa using e)]at j;refine⟨by decide,by decide,?_⟩;refine ZMt a i z λF a3=>?_;refine ZD (λe=>?_) λe=>?_
  .rw [Xe (by simpa using e)]at j;exact j F a3
  rw[Xd (by simpa using e)]at j;obtain⟨L,_⟩:=ZEd (S:=c.d) (who:=who) (id:=m.F_0) (by simpa using e);obtain⟨r,y,_⟩:=ZFt i L;generalize (ZB5 c.d who m.F_0).1=x at*;refine ZK (cd:=cP) (x:=k.pq) a3.ob (i:=7) rfl ?_;refine ZK (cd:=ci) (x:=c.d.now) a3.ob (i:=4) rfl ?_;obtain⟨C,M,a3⟩:=a3;obtain⟨cq,R,o4,w4,X⟩:=a3.quotes;have Z:=i.l1;refine ZWR o4 w4 (by omega) λs W Y G o5 w5 wd=>?_;have a5:=X G W _ _ (o5.pick [0,2,1] 3) w5;have a5:Has k b who c G (Y::l):=⟨C,M,a5.perm (Xt _ _ _)⟩
  refine ZZT wd.row (a5.sub (by simp)) (XG (Wj _ _) (by omega)) ?_;have a5:=a5.drop;refine ZD (λe=>?_) λe=>?_
  .rw [Xe (by simpa using e)]at j;exact j G a5
  rw[Xd (by simpa using e)]at j;have H:=ZN5 (s:=x.Side) (qs:=c.d.quotes.filter (ZPt x.ID c.d.now)) (by simpa using e);generalize (ZL3 x.Side (c.d.quotes.filter (ZPt x.ID c.d.now))).1=q at*;exact ZSj (x:=x) (q:=q) a5 i z V r (i.qi q (Wk.1 H).1).2.2.1 y j
theorem ZUC(a:Has k b who c h l)(i:WOk N c.d)(I:N<=10000)(hw:0<=who/\who<8)(ho:c.outs.length<=1000000)(j:∀ h',Has k b who (ZCM c who m).1 h' l->Q (ZCM c who m).2 h'):
 cx 132 [vp k.p,vp (sj b),ZAk.enc m] ci h Q:=by
 refine c132 ?_;unfold ZCM at j;refine ZD (λe=>?_) λe=>?_
 .rw [Xe (by simpa using e)]at j;refine⟨by decide,by decide,?_⟩;exact ZXZ a i I j
 rw[Xd (by simpa using e)]at j;dsimp only[ZM,DK.p];refine⟨by decide,by decide,?_⟩;refine ZK (cd:=cP) (x:=k.pa) a.ob (i:=8) rfl ?_;obtain⟨C,wc,a⟩:=a;refine a.getA i I λz r=>?_;have r:Has k b who c z l:=⟨C,wc,r⟩
 refine⟨by decide,by decide,by decide,by decide,?_⟩;cases L:getA c.d.asks m.F_0 with
 | none=>
   rw[L]at j;exact Zf rfl (j z r)
 | some x=>
   rw[L]at j;dsimp only[ZKg]at j⊢;obtain⟨E,ab,ae,ah⟩:=ZFt i (ZDk L).1;refine ZU rfl ?_;refine r.ldWho ⟨hw.1,?_⟩;refine ZD (λe=>?_) λe=>?_
   .rw [Xe (by simpa using e)]at j;exact j z r
   rw[Xd (by simpa using e)]at j;refine ZD (λe=>?_) λe=>?_
   .rw [Xe (by simpa using e)]at j;exact j z r
   rw[Xd (by simpa using e)]at j;refine r.ldHalted E i.bl ?_;refine ZD (λe=>?_) λe=>?_
   .rw [Xe e]at j;exact j z r
   rw[Xd (by rw[e];simp)]at j;refine r.ldBond E i.bl ?_;have ac:=i.bonds _ (ZBB E i.bl).1;refine ZN4 (b:=ZAL c.d x.Bond) (by omega) ?_;refine ZD (λe=>?_) λe=>?_
   .rw [Xe (by simpa using e)]at j;exact j z r
   rw[Xd (by simpa using e)]at j;refine ZKu (ZD (λe=>?_) λe=>?_)
   .rw [Xe (by simpa using e)]at j;exact j z r
   rw[Xd (by simpa using e)]at j;have aj:=i.c3;have ak:=i.l1;refine ZK (cd:=ci) (x:=c.d.quote) r.ob (i:=14) rfl ?_;refine r.ldWho ?_;refine ZK (cd:=ci) (x:=c.d.now) r.ob (i:=4) rfl ?_;refine ZK (cd:=cP) (x:=k.pq) r.ob (i:=7) rfl ?_;rw[w64 (n:=c.d.quote+1) (by omega) (by omega)];obtain⟨O,F,r⟩:=r;obtain⟨cq,R,o3,w3,X⟩:=r.quotes;refine ZX7 (x:=ZAF c who x m) o3 w3 i.qs (λy hy=>by have:=(i.qi y hy).1;show y.ID<c.d.quote+1;omega) (by omega) λold c4 H o4 w4=>?_;have a4:=X H c4 _ _ o4 w4;refine ZD (λe=>?_) λe=>?_
   .have e:(ZJH c.d.quotes (ZAF c who x m)).2≠0:=by simpa using e
    rw[Xe e]at j;rw[ZSm e]at a4;exact j H ⟨O,F,a4⟩
   rw[Xd (by simpa using e)]at j;have a4:Has k b who {c with d:={c.d with quotes:=(ZJH c.d.quotes (ZAF c who x m)).1}} H l:=⟨O,F,a4⟩
   refine ZK (cd:=ci) (x:=c.d.quote) a4.ob (i:=14) rfl ?_;rw[w64 (n:=c.d.quote+1) (by omega) (by omega)];refine a4.setQuote λh5 a5=>?_;refine ZK (cd:=ci) (x:=c.d.quote+1) a5.ob (i:=14) rfl ?_;refine a5.setId λh6 a6=>?_;refine ZK (cd:=cP) (x:=k.pd) a6.ob (i:=9) rfl ?_;obtain⟨V,M,a6⟩:=a6;refine Z7.addDue (x:=⟨i64.wrap (c.d.now+m.F_2),3,c.d.quote+1⟩) a6 (i.due I) λt Y G=>?_;have G:Has k b who (ZQ1 c (ZAF c who x m)) Y l:=⟨V,M,G⟩
   exact ZB3 (ns:=[x.ID,c.d.quote+1,m.F_1,i64.wrap (c.d.now+m.F_2)]) G (by simp) ho λZ W=>j Z W
theorem ZEq(x:Ask):∀ (is:List Nat) (c:DC),(is.foldl (ZB6 x) c).d=c.d/\(is.foldl (ZB6 x) c).id=c.id/\(is.foldl (ZB6 x) c).outs.length<=c.outs.length+is.length
 | [],c=>⟨rfl,rfl,by simp⟩
 | i::is,c=>by
   have h:=ZEq x is (ZB6 x c i);rw[Xy];have e:(ZB6 x c i).d=c.d/\(ZB6 x c i).id=c.id/\(ZB6 x c i).outs.length<=c.outs.length+1:=by
    unfold ZB6;split
    .exact ⟨rfl,rfl,by simp[ZCJ]⟩
    .exact ⟨rfl,rfl,by omega⟩
   rw[XI];exact⟨by rw[h.1,e.1],by rw[h.2.1,e.2.1],by omega⟩
theorem ZQK(a:Has k b who c h l)(i:WOk N c.d)(hN:N<=10000)(hw:0<=who/\who<8)(ho:c.outs.length<=500000)(r:∀ h',Has k b who (ZBS c who m).1 h' l->Q (ZBS c who m).2 h'):
 cx 136 [vp k.p,vp (sj b),ZAk.enc m] ci h Q:=by
 refine c136 ?_;unfold ZBS at r;refine⟨by decide,by decide,by decide,by decide,by decide,by decide,by decide,by decide,by decide,by decide,?_⟩;refine a.isBond (ZD (λe=>?_) λe=>?_)
 .rw [Xe (by simpa using e)]at r;exact r h a
 have I:isBond c.d m.F_0=true:=by simpa using e
 rw[Xd (by rw[I];simp)]at r;refine ZDP (ZD (λe=>?_) λe=>?_)
 .rw [Xe (by simpa using e)]at r;exact r h a
 rw[Xd (by simpa using e)]at r;dsimp only[ZM,DK.p];refine a.ldHalted I i.bl ?_;refine ZD (λe=>?_) λe=>?_
 .rw [Xe e]at r;exact r h a
 rw[Xd (by rw[e];simp)]at r;refine a.ldBond I i.bl ?_;have hbb:=i.bonds _ (ZBB I i.bl).1;refine ZSz (b:=ZAL c.d m.F_0) (by omega) ?_;refine ZD (λe=>?_) λe=>?_
 .rw [Xe (by simpa using e)]at r;exact r h a
 rw[Xd (by simpa using e)]at r;refine ZK (cd:=cP) (x:=k.pf) a.ob (i:=6) rfl ?_;refine a.ldWho ?_;obtain⟨C,H,a'⟩:=a;obtain⟨D,V,X⟩:=a'.dsub;obtain⟨cF,hF,wF⟩:=X.firm_sub V;refine ZU2 hF wF ?_;refine ZD (λe=>?_) λe=>?_
 .rw [Xe (by simpa using e)]at r;exact r h ⟨C,H,a'⟩
 rw[Xd (by simpa using e)]at r;refine ZKu (ZD (λe=>?_) λe=>?_)
 .rw [Xe (by simpa using e)]at r;exact r h ⟨C,H,a'⟩
 rw[Xd (by simpa using e)]at r;have a:Has k b who c h l:=⟨C,H,a'⟩
 have hc4:=i.c4;have hl2:=i.l2;refine ZK (cd:=ci) (x:=c.d.ask) a.ob (i:=15) rfl ?_;refine a.ldWho ?_;refine ZK (cd:=ci) (x:=c.d.now) a.ob (i:=4) rfl ?_;refine ZK (cd:=cP) (x:=k.pa) a.ob (i:=8) rfl ?_;rw[w64 (n:=c.d.ask+1) (by omega) (by omega)];obtain⟨ca,R,o3,w3,cl⟩:=a'.asks;refine ZYs (x:=Z6 c who m) o3 w3 i.sa (λy hy=>by have:=(i.ai y hy).1;show y.ID<c.d.ask+1;omega) (by omega) λc4 O o4 w4=>?_;have a4:=cl O c4 _ _ o4 w4;refine ZD (λe=>?_) λe=>?_
 .have e:(ZJQ c.d.asks (Z6 c who m)).2≠0:=by simpa using e
  rw[Xe e]at r;rw[ZT4 e]at a4;exact r O ⟨C,H,a4⟩
 rw[Xd (by simpa using e)]at r;have a4:Has k b who {c with d:={c.d with asks:=(ZJQ c.d.asks (Z6 c who m)).1}} O l:=⟨C,H,a4⟩
 refine ZK (cd:=ci) (x:=c.d.ask) a4.ob (i:=15) rfl ?_;rw[w64 (n:=c.d.ask+1) (by omega) (by omega)];refine a4.setAsk λh5 a5=>?_;refine ZK (cd:=ci) (x:=c.d.ask+1) a5.ob (i:=15) rfl ?_;refine a5.setId λh6 a6=>?_;refine ZK (cd:=cP) (x:=k.pd) a6.ob (i:=9) rfl ?_;obtain⟨Z,Y,a6⟩:=a6;refine Z7.addDue (x:=⟨i64.wrap (c.d.now+m.F_4),1,c.d.ask+1⟩) a6 (i.due hN) λt h7 G=>?_;have hpl:k.sp.len=c.d.parties.length:=by obtain⟨D,V,X⟩:=G.dsub;obtain⟨dP,_,wP⟩:=X.parties_sub V;exact wP.1
 have G:Has k b who (ZN3 c (Z6 c who m)) h7 l:=⟨Z,Y,G⟩
 have h8:=i.pl;refine ZK (cd:=cSl) (x:=k.sp) G.ob (i:=1) rfl ?_;refine Zc (λz h'=>∃ j:Nat,z=(j:Int)/\j<=c.d.parties.length/\Has k b who ((List.range j).foldl (ZB6 (Z6 c who m)) (ZN3 c (Z6 c who m))) h' l) (λz=>c.d.parties.length-z.toNat) ⟨0,rfl,Xh _,G⟩ ?_;rintro J z h9 F ⟨j,rfl,hj,a9⟩
 refine ZG (λhlt=>?_) λhge=>?_
 ·have hd:=ZEq (Z6 c who m) (List.range j) (ZN3 c (Z6 c who m));have W:(ZN3 c (Z6 c who m)).outs=c.outs:=rfl;rw[W,List.length_range]at hd;have M:(List.range (j+1)).foldl (ZB6 (Z6 c who m)) (ZN3 c (Z6 c who m))=ZB6 (Z6 c who m) ((List.range j).foldl (ZB6 (Z6 c who m)) (ZN3 c (Z6 c who m))) j:=by rw[List.range_succ,WX];rfl
  generalize (List.range j).foldl (ZB6 (Z6 c who m)) (ZN3 c (Z6 c who m))=cj at*;rw[Z1 (by omega)];refine ZI (λ_ h'=>Has k b who (ZB6 (Z6 c who m) cj j) h' l) ?_ λJ2 E=>?_
  .rintro _ h' a';exact F _ _ ⟨j+1,rfl,by omega,by rw[M];exact a'⟩ (by omega)
  .refine ⟨Xb j,?_⟩;unfold ZB6 at E;refine ZD (λe=>?_) λe=>?_
   .have e:ZCe .u64 (ZBK .u64 (Z6 c who m).Dealers (j:Int)) 1=1:=by show ZCe .u64 (ZBK .u64 (u64.wrap m.F_3) (j:Int)) 1=1;simpa using e
    rw[Xe e]at E;exact ZB3 (ns:=[c.d.ask+1,m.F_0,m.F_1,m.F_2,i64.wrap (c.d.now+m.F_4)]) a9 (by simp) (by omega) λh10 L=>E _ _ L
   .have e:¬ZCe .u64 (ZBK .u64 (Z6 c who m).Dealers (j:Int)) 1=1:=by have:(ZCe .u64 (ZBK .u64 (u64.wrap m.F_3) (j:Int)) 1==1)=false:=e;show ¬ZCe .u64 (ZBK .u64 (u64.wrap m.F_3) (j:Int)) 1=1;simpa using this
    rw[Xd e]at E;exact E _ _ a9
 .have:j=c.d.parties.length:=by omega
  subst this;exact r h9 a9
theorem ZNw(i:WOk N S)(a:Ask):ZCD S a=ZNO\/ZCD S a∈S.quotes:=by
 unfold ZCD;cases j:getQ S.quotes a.Hit with
 | none=>exact .inl rfl
 | some q=>exact .inr (ZKL j).1
theorem ZWV(a:Has k b who c h l)(i:WOk N c.d)(y:N<=10000)(ho:c.outs.length<=500000)(j:∀ h',Has k b who (ZDg c who m).1 h' l->Q (ZDg c who m).2 h'):
 cx 134 [vp k.p,vp (sj b),ZAk.enc m] ci h Q:=by
 refine c134 ?_;unfold ZDg at j;dsimp only[ZM,DK.p];refine⟨by decide,by decide,?_⟩;refine ZK (cd:=cP) (x:=k.pa) a.ob (i:=8) rfl ?_;obtain⟨C,wc,a⟩:=a;refine a.getA i y λX O=>?_;have E:Has k b who c X l:=⟨C,wc,O⟩
 cases I:getA c.d.asks m.F_0 with
 | none=>
   rw[I]at j;exact Zf rfl (j X E)
 | some x=>
   rw[I]at j;dsimp only at j;obtain⟨Y,F,hc1,hc2⟩:=ZFt i (ZDk I).1;have hx:=i.ai x (ZDk I).1;dsimp only[ZKg];refine ZU rfl ?_;refine ZD (λe=>?_) λe=>?_
   .rw [Xe (by simpa using e)]at j;exact j X E
   rw[Xd (by simpa using e)]at j;refine ZK (cd:=cP) (x:=k.pq) O.ob (i:=7) rfl ?_;refine O.getQ i y λZ a3=>?_;have a3:Has k b who c Z l:=⟨C,wc,a3⟩
   have hh:=ZNw i x;have hp:(ZCD c.d x).Price<=1000000/\0<=(ZCD c.d x).Price/\0<=(ZCD c.d x).Dealer/\(ZCD c.d x).Dealer<8:=by
    rcases hh with e|e
    .rw [e];exact⟨by decide,by decide,by decide,by decide⟩
    .have:=i.qi _ e;omega
   have V:(ZKg ZNO (getQ c.d.quotes x.Hit)).1=ZCD c.d x:=rfl;rw[V];generalize ZCD c.d x=q at*;refine a3.ldWho ?_;refine ZD (λe=>?_) λe=>?_
   .rw [Xe (by simpa using e)]at j;exact j Z a3
   rw[Xd (by simpa using e)]at j;refine a3.setId λh4 a4=>?_;refine ZD (λe=>?_) λe=>?_
   .rw [Xe (by simpa using e)]at j;refine ZK (cd:=cP) (x:=k.pd) a4.ob (i:=9) rfl ?_;obtain⟨z,r,a4⟩:=a4;refine a4.dropDue (i.due y) λt h5 a5=>?_;exact ZHS (c:={c with id:=x.ID}) (x:=x) ⟨z,r,a5⟩ i y (by show c.outs.length<=_;omega) λh6 a6=>j h6 a6
   rw[Xd (by simpa using e)]at j;obtain⟨z,r,a4⟩:=a4;refine ZI2 (x:=x) (q:=q) a4 i Y hp.1 F λh5 a5=>?_;refine ZD (λe=>?_) λe=>?_
   .rw [Xe (by simpa using e)]at j;exact j h5 ⟨z,r,a5⟩
   rw[Xd (by simpa using e)]at j;refine ZK (cd:=cP) (x:=k.pf) a5.ob (i:=6) rfl ?_;obtain⟨cF,R,o6,w6,cl⟩:=a5.firm;refine ZZ8 (who:=q.Dealer) (price:=q.Price) (qty:=x.Qty) o6 w6 hp.1 F λc7 h7 o7 w7=>?_;have H:=cl h7 c7 _ _ o7 w7;refine ZD (λe=>?_) λe=>?_
   .have e:(ZL4 c.d.parties c.d.used q.Dealer q.Price x.Qty).2≠0:=by simpa using e
    rw[Xe e]at j;rw[ZSN e]at H;exact j h7 ⟨z,r,H⟩
   rw[Xd (by simpa using e)]at j;refine ZK (cd:=cP) (x:=k.pa) H.ob (i:=8) rfl ?_;have i7:=i.used (ZL4 c.d.parties c.d.used q.Dealer q.Price x.Qty).1;refine ZW8 H i7 y λn8 h8 a8=>?_;refine ZPM a8 (i7.end x.ID 3) y λh9 a9=>?_;have a9:Has k b who (ZW1 {c with d:={c.d with used:=(ZL4 c.d.parties c.d.used q.Dealer q.Price x.Qty).1},id:=x.ID} x.ID 3) h9 l:=⟨z,r,a9⟩
   refine ZB3 (ns:=[x.ID,q.Price]) a9 (by simp) (by show c.outs.length<=_;omega) λh10 L=>?_;have hl4:=i.l4;refine ZLk (t:=⟨0,x.Bond,0,0,q.Price,x.Qty,x.ID,0⟩) L ?_ (by show c.d.trades.length<=_;omega) (by simp[ZCJ,ZW1];omega) λW M=>j W M;have G:=i.now;have hc4:=i.c4;have hbl:=i.bl4;unfold ZCy ZBF I64;unfold I64 at G;have e1:(ZCJ (ZW1 {c with d:={c.d with used:=(ZL4 c.d.parties c.d.used q.Dealer q.Price x.Qty).1},id:=x.ID} x.ID 3) x.Client 26 [x.ID,q.Price]).d.now=c.d.now:=rfl;rw[e1];dsimp only;refine⟨by omega,by omega,?_,?_,by omega,by omega,by omega,by omega⟩
   .split<;>omega
   .split<;>omega
theorem ZLm{ps:List Z8}(h:ZVX (ZEc ps who) kind=true):0<=who/\who<ps.length:=by
 cases j:ZDK ps who with
 | none=>
   rw[ZGX j]at h;unfold ZVX at h;split at h
   .cases h
   .split at h
    .cases h
    .split at h
     .cases h
     .simp at h
 | some x=>
   have:=ZHQ j;exact⟨this.1,this.2.1⟩
theorem ZMo(i:WOk N S)(h:ZMX S who m=true):0<=who/\who<8:=by unfold ZMX at h;simp only[Xf]at h;have:=ZLm h.2.2;have:=i.pl;omega
theorem ZX3(a:Has k b who c h l)(i:WOk N c.d)(O:N<=9000)(H:c.outs.length<=500000)(r:∀ h',Has k b who (ZBZ c who m).1 h' l->Q (ZBZ c who m).2 h'):
 cx 78 [vp k.p,vp (sj b),ZAk.enc m] ci h Q:=by
 refine c78 ?_;unfold ZBZ at r;refine ZI (λt h'=>Has k b who c h' l/\t=!ZMX c.d who m) ?_ λJ y=>?_
 ·rintro t L ⟨E,rfl⟩;refine ZD (λe=>?_) λe=>?_
  .rw [Xe (by simpa using e)]at r;exact r L E
  have e:ZMX c.d who m=true:=by simpa using e
  have I:=ZMo i e;rw[Xd (by rw[e];simp)]at r;refine ZI (λt h'=>h'=L/\t=decide (m.Kind=6\/m.Kind=7\/m.Kind=8)) ?_ λJ y=>?_
  ·rintro t h' ⟨rfl,rfl⟩;refine ZG (λj=>?_) λj=>?_
   .rw [Xe j]at r;exact ZRN E i O I H r
   rw[Xd j]at r;refine ZI (λt F=>F=h'/\t=decide (m.Kind=10\/m.Kind=11)) ?_ λJ y=>?_
   ·rintro t h' ⟨rfl,rfl⟩;refine ZG (λj=>?_) λj=>?_
    .rw [Xe j]at r;exact ZUC E i (by omega) I (by omega) r
    rw[Xd j]at r;refine ZI (λt F=>F=h'/\t=decide (m.Kind=12\/m.Kind=13)) ?_ λJ y=>?_
    .rintro t h' ⟨rfl,rfl⟩;refine ZG (λj=>?_) λj=>?_
     .rw [Xe j]at r;exact ZY8 E i (by omega) (by omega) r
     rw[Xd j]at r;refine ZI (λt F=>F=h'/\t=decide (m.Kind=14\/m.Kind=15)) ?_ λJ y=>?_
     .rintro t h' ⟨rfl,rfl⟩;refine ZG (λj=>?_) λj=>?_
      .rw [Xe j]at r;exact ZWV E i (by omega) H r
      rw[Xd j]at r;refine ZD (λj=>?_) λj=>?_
      .rw [Xe (by simpa using j)]at r;exact⟨by decide,by decide,ZX9 E i (by omega) (by omega) r⟩
      rw[Xd (by simpa using j)]at r;refine ZD (λj=>?_) λj=>?_
      .rw [Xe (by simpa using j)]at r;exact ZQK E i (by omega) I H r
      rw[Xd (by simpa using j)]at r;exact⟨by decide,by decide,by decide,by decide,ZY2 E i r⟩
     .refine ZD (λe=>y _ _ ⟨rfl,?_⟩) λe=>y _ _ ⟨rfl,?_⟩;all_goals (rw[XA];simp_all)
    .refine ZD (λe=>y _ _ ⟨rfl,?_⟩) λe=>y _ _ ⟨rfl,?_⟩;all_goals (rw[XA];simp_all)
   .refine ZD (λe=>y _ _ ⟨rfl,?_⟩) λe=>y _ _ ⟨rfl,?_⟩;all_goals (rw[XA];simp_all)
  .refine ZD (λe=>y _ _ ⟨rfl,?_⟩) λe=>ZD (λz=>y _ _ ⟨rfl,?_⟩) λz=>y _ _ ⟨rfl,?_⟩;all_goals (rw[XA];simp_all)
 ·unfold ZMX at y;refine ZZ1 ?_;refine ZD (λe=>y _ _ ⟨a,?_⟩) λe=>?_
  .have e:decide (6<=m.Kind/\m.Kind<=17)=false:=by
    cases h:decide (6<=m.Kind/\m.Kind<=17) with
    | false=>rfl
    | true=>rw[h]at e;cases e
   rw[e];rfl
  have e:decide (6<=m.Kind/\m.Kind<=17)=true:=by
   cases h:decide (6<=m.Kind/\m.Kind<=17) with
   | true=>rfl
   | false=>rw[h]at e;cases e
  rw[e]at y;obtain⟨C,W,D,o,w⟩:=a;refine ZXw o λF o2=>?_;have G:Has k b who c F l:=⟨C,W,D,o2,w⟩
  refine ZD (λz=>y _ _ ⟨G,?_⟩) λz=>?_
  .have z:isV m=false:=by simpa using z
   rw[z];rfl
  have z:isV m=true:=by simpa using z
  rw[z]at y;dsimp only[ZM,DK.p];refine ZK (cd:=cP) (x:=k.pf) G.ob (i:=6) rfl ?_;refine G.ldWho ?_;obtain⟨cF,M,V⟩:=w.firm_sub (o2.mem (by simp));refine ZaA M V (y _ _ ⟨G,?_⟩);simp
variable {Q:Sl->Hp->Prop}
theorem ZMC(a:Z7 k S h l)(i:WOk N S)(hN:N<=9000)(O:(ZBZ (ZBU S) who m).1.outs.length<=1000000)(j:∀ s d h',Z7 k (doD S who seq m).1 h' (d::l)->Own ZCH d s (doD S who seq m).2->Q s h'):
 cx 49 [vp k.p,vi who,vi seq,ZAk.enc m] cSl h Q:=by
 refine c49 ?_;unfold doD at j;refine ZU rfl ?_;refine a.new λk1 h1 Z=>?_;obtain⟨D,o1,w1⟩:=Z;obtain⟨o2,o3⟩:=On.joined (cs:=[Go.Eng.ob k1 [vi who,vi 0,Value.slice none 0 0] 191,Hp.emp]) (l:=D::l) ((o1.emp).pick [2,0,1] 3);have a2:Has k k1 who (ZBU S) h1 l:=⟨_,⟨⟨none,0,0⟩,Hp.emp,o3,Own.nil _⟩,D,o2.swap,w1⟩
 refine ZX3 a2 i hN (Xh _) λh4 a4=>?_;generalize ZBZ (ZBU S) who m=r at j a4 O;obtain⟨C,⟨s,d,W,wd⟩,a4⟩:=a4;refine ZD (λe=>?_) λe=>?_
 .rw [Xe (by simpa using e)]at j;refine a4.drop.new λF h5 a5=>?_;obtain⟨G,V,X⟩:=a5;refine ZOV (g:=Go.Eng.ob F [vi seq,vi r.2] 2) (s:=⟨sj F,2,2⟩) (ns:=[seq,r.2]) V (Zk (by rfl) rfl) (by simp) (by simp) λY I=>?_;refine ZH (vs:=(ZCH.enc (ZHL who 19 [seq,r.2])).cells.toList) I λy H L=>?_;exact j ⟨sj y,1,1⟩ _ H ⟨G,L.pick [1,0] 3,X⟩ (ZAx (rest:=[]) (by rfl) rfl (by simp))
 .rw [Xd (by simpa using e)]at j;have hC:=a4.sub (g:=C) (by simp);have z:(Go.Eng.ob k1 [vi who,vi r.1.id,sv s] 191).sub h4:=Hp.sub_trans (W.mem (by simp)) hC;refine ZK (cd:=ci) (x:=r.1.id) z (i:=1) rfl ?_;refine ZK (cd:=cSl) (x:=s) z (i:=2) rfl ?_;refine a4.new λF h5 a5=>?_;obtain⟨G,V,X⟩:=a5;refine ZOV (g:=Go.Eng.ob F [vi seq,vi r.1.id] 2) (s:=⟨sj F,2,2⟩) (ns:=[seq,r.1.id]) V (Zk (by rfl) rfl) (by simp) (by simp) λY I=>?_;have E:(Go.Eng.ob k1 [vi who,vi r.1.id,sv s] 191).sub Y:=Hp.sub_trans (W.mem (by simp)) (I.mem (c:=C) (by simp));refine⟨⟨Hp.sub_rds E (ZBI (i:=2) rfl),trivial⟩,?_⟩;refine ZH (vs:=(ZCH.enc (ZHL who 18 [seq,r.1.id])).cells.toList) I λy H L=>?_;have w7:Own ZCH (Go.Eng.ob y (ZCH.enc (ZHL who 18 [seq,r.1.id])).cells.toList 78) ⟨sj y,1,1⟩ [ZHL who 18 [seq,r.1.id]]:=ZAx (rest:=[]) (by rfl) rfl (by simp);have M:d.sub H:=Hp.sub_trans (W.mem (c:=d) (by simp)) (L.mem (c:=C) (by simp));have o8:On H (Go.Eng.ob y (ZCH.enc (ZHL who 18 [seq,r.1.id])).cells.toList 78::G::l):=L.pick [0,1] 4;refine ZW (cd:=ZCH) (g:=d) (s:=⟨sj y,1,1⟩) (t:=s) (ys:=r.1.outs) o8 rfl w7 (by decide) wd.row M ?_ λd9 p n m h9 o9 w9=>?_
  .refine XG (Xr _ (show _<=1000001 from ?_)) (by decide);show 1+r.1.outs.length<=_;omega
  .exact j ⟨p,n,m⟩ d9 h9 ⟨G,o9.swap,X⟩ w9
def ZDz(who:Int)(st:List ZE×List Out)(o:ZE):List ZE×List Out:=if o.Owner=who then (ZAE st.1 o.ID,st.2++[ZHL who 21 [o.ID,o.Left]]) else st
def ZAS(who s:Int)(st:List ZE×List Out):List ZE×List Out:=(ZAa st.1 s).foldl (ZDz who) st
def ZAM(who:Int)(st:List ZE×List Out):List ZE×List Out:=ZAS who 2 (ZAS who 1 st)
def ZAv(who:Int)(acc:List (List ZE)×List Out)(b:List ZE):List (List ZE)×List Out:=(acc.1++[(ZAM who (b,acc.2)).1],(ZAM who (b,acc.2)).2)
def ZCZ(who:Int)(bs:List (List ZE)):List (List ZE)×List Out:=bs.foldl (ZAv who) ([],[])
def goneQ(S:DS)(q:Za):DS:=if ZFW S q=true then S else {S with quotes:=killQ S.quotes q.ID}
def ZAV(S:DS)(who:Int):DS×List Out:=((S.quotes.filter (ofQ who)).foldl goneQ {S with books:=(ZCZ who S.books).1},(ZCZ who S.books).2)
theorem ZH1(who:Int):∀ (os:List ZE) (st:List ZE×List Out),(os.foldl (ZDz who) st).1.Sublist st.1/\(os.foldl (ZDz who) st).2.length<=st.2.length+os.length
 | [],st=>⟨Yy _,Xc _⟩
 | o::os,st=>by
   have h:=ZH1 who os (ZDz who st o);have j:(ZDz who st o).1.Sublist st.1/\(ZDz who st o).2.length<=st.2.length+1:=by
    unfold ZDz;split
    .exact ⟨ZAG _ _,by simp⟩
    .exact ⟨Yy _,by omega⟩
   rw[Xy,XI];exact⟨h.1.trans j.1,by omega⟩
theorem ZDG(who s:Int)(st:List ZE×List Out):(ZAS who s st).1.Sublist st.1/\(ZAS who s st).2.length<=st.2.length+st.1.length:=by have:=ZH1 who (ZAa st.1 s) st;have h:=ZBt st.1 s;unfold ZAS;exact⟨this.1,by omega⟩
theorem ZBl(who:Int)(st:List ZE×List Out):(ZAM who st).1.Sublist st.1/\(ZAM who st).2.length<=st.2.length+2*st.1.length:=by have j:=ZDG who 1 st;have r:=ZDG who 2 (ZAS who 1 st);have:=j.1.length_le;unfold ZAM;exact⟨r.1.trans j.1,by omega⟩
theorem ZTV{id:Int}(o:On h (C::l))(wc:ZFB b who id outs C)(I:ns.length<=6)(hl:outs.length<=1000000){Q:PUnit->Hp->Prop}(L:∀ r h',On h' (r::l)->ZFB b who id (outs++[ZHL to kind ns]) r->Q ⟨⟩ h'):
 ZJ (.cells (ZO ci ns).toArray 2 (0,0)) h λk1 H=>cx 86 [vp (sj b),vi to,vi kind,Value.slice (sj k1) ns.length ns.length] (ZV []) H Q:=by
 refine ZH o λk0 G M=>?_;obtain⟨s1,d,Z,wd⟩:=wc;refine c86 (s:=⟨sj k0,ns.length,ns.length⟩) ?_;have E:On G (Go.Eng.ob b [vi who,vi id,sv s1] 191::d::Go.Eng.ob k0 (ZO ci ns) 2::l):=M.swap.split Z;dsimp only[ZM];refine ZL (x:=s1) E 0 (i:=2) rfl rfl ?_;refine ZOV (g:=Go.Eng.ob k0 (ZO ci ns) 2) (s:=⟨sj k0,ns.length,ns.length⟩) E (Zk rfl rfl) (by simp) I λh2 o2=>?_;refine⟨⟨Hp.sub_rds (o2.get (i:=0) rfl) (ZBI (i:=2) rfl),trivial⟩,?_⟩;refine ZH o2 λz h3 F=>?_;refine ZW (cd:=ZCH) (g:=Go.Eng.ob z (ZCH.enc (ZHL to kind ns)).cells.toList 78) (s:=s1) (t:=⟨sj z,1,1⟩) (ys:=[ZHL to kind ns]) (F.rot3) rfl wd (by decide) (Zk (by rfl) rfl) (F.get (i:=0) rfl) ?_ λj p n m h4 O w4=>?_
 .rw [Xv];exact XG (Xr _ (show _<=1000001 by omega)) (by decide)
 .refine ZX (cd:=cSl) (i:=2) (x:=⟨p,n,m⟩) (vs':=[vi who,vi id,sv ⟨p,n,m⟩]) (O.rot3) rfl rfl (by show 2+1<=3;omega) λy V=>?_;have W:On y (Go.Eng.ob b [vi who,vi id,sv ⟨p,n,m⟩] 191::j::l):=V.pick [0,1] 4;obtain⟨X,Y⟩:=On.joined (cs:=[Go.Eng.ob b [vi who,vi id,sv ⟨p,n,m⟩] 191,j]) (l:=l) W;exact L _ y X ⟨_,j,Y,w4⟩
theorem ZNg{q:Option Addr}{xs:List ZE}{m:Int}(o:On h (cb::C::R::l))(w:Zp q xs cb)(wc:ZFB b 0 0 outs C)(hb:ZAu m xs)(hl:outs.length<=900000)(hK:∀ G C' h',On h' (G::C'::R::l)->Zp q (ZAS who s (xs,outs)).1 G->ZFB b 0 0 (ZAS who s (xs,outs)).2 C'->K h'):
 cx 20 [vp q,vi s] cSl h λs2 h5=>Ze (0:Int) h5 fun (J3:Int->Hp->Prop) n4 L=>ZB (decide (n4<(s2.len:Int)))
   (ZT (fun (u1:PUnit) h7=>J3 (i64.wrap (n4+1)) h7) λX=>Zb s2.a s2.len n4 λa4=>ZC ZF (a4.add (n4.toNat*6)) L λW=>ZB (W.Owner==who)
     (cx 85 [vp q,vi W.ID] (ZV [ZF,cB]) L λz1 h8=>ZJ (Obj.cells {toList:=[vi W.ID,vi W.Left]} 2) h8 λk3 h9=>
       cx 86 [vp (some {block:=b,off:=0}),vi who,vi 21,Value.slice (some {block:=k3,off:=0}) 2 2] (ZV []) h9 λu2 Z=>X PUnit.unit Z)
     (X PUnit.unit L)) (K L):=by
 refine ZHC o w hb.1 (by have:=hb.2.2.1;omega) λs2 c2 d2 h2 o2 w2 wd=>?_;have hlen:=wd.1;have hsl:=ZBt xs s;have hxl:=hb.2.2.1;unfold ZAS at hK;dsimp only at hK;generalize hys:ZAa xs s=ys at*;refine Zc (λz h'=>∃ (j:Nat) (cb C:Hp),z=(j:Int)/\j<=ys.length/\On h' (cb::C::d2::R::l)/\Zp q ((ys.take j).foldl (ZDz who) (xs,outs)).1 cb/\ZFB b 0 0 ((ys.take j).foldl (ZDz who) (xs,outs)).2 C) (λz=>ys.length-z.toNat)
  ⟨0,c2,C,rfl,Xh _,o2.pick [0,2,1] 3,w2,wc⟩ ?_
 rintro J z h3 F ⟨j,H,C3,rfl,hj,O,V,y⟩
 refine ZG (λhlt=>?_) λhge=>?_
 .have hj':j<ys.length:=by omega
  have a0:ys[j]?=some ys[j]:=Xa hj';have I:=ZAB (ZDz who) (xs,outs) ys a0;have E:=ZH1 who (ys.take j) (xs,outs);have hs1:=E.1.length_le;have M:=E.2;rw[Xk]at M;dsimp only at hs1 M;generalize (ys.take j).foldl (ZDz who) (xs,outs)=st at*;rw[Z1 (by omega)];refine ZI (λ_ h'=>∃ cb C,On h' (cb::C::d2::R::l)/\Zp q (ZDz who st ys[j]).1 cb/\ZFB b 0 0 (ZDz who st ys[j]).2 C) ?_ λX r=>?_
  .rintro _ h' ⟨Y,C4,o4,w4,wc4⟩;exact F _ _ ⟨j+1,Y,C4,rfl,by omega,o4,by rw[I];exact w4,by rw[I];exact wc4⟩ (by omega)
  .refine ZN wd.row (Xb j) (by omega) λp hp=>ZQ wd.row (O.mem (by simp)) rfl hp (i:=j) a0 (by rfl) ?_;unfold ZDz at r;refine ZD (λe=>?_) λe=>?_
   .rw [Xe (by simpa using e)]at r;refine ZFk O V (by omega) λc5 h5 o5 w5=>?_;refine ZTV (ns:=[ys[j].ID,ys[j].Left]) o5.swap y (by simp) (by omega) λC6 L o6 w6=>?_;exact r _ _ ⟨c5,C6,o6.swap,w5,w6⟩
   .rw [Xd (by simpa using e)]at r;exact r _ _ ⟨H,C3,O,V,y⟩
 .have:j=ys.length:=by omega
  subst this;rw[Xo]at V y;exact hK H C3 h3 (O.pick [0,1,3] 4) V y
def ZLt(who:Int)(st:List ZE×List Out):Nat->List ZE×List Out
 | 0=>st
 | 1=>ZAS who 1 st
 | _=>ZAM who st
theorem ZQE(who:Int)(st:List ZE×List Out)(t:Nat):(ZLt who st t).1.Sublist st.1/\(ZLt who st t).2.length<=st.2.length+2*st.1.length:=by
 unfold ZLt;split
 .exact ⟨Yy _,by omega⟩
 .have:=ZDG who 1 st;exact⟨this.1,by omega⟩
 .exact ZBl who st
theorem ZFS(who:Int):∀ (bs:List (List ZE)) (acc:List (List ZE)×List Out),(bs.foldl (ZAv who) acc).1.length=acc.1.length+bs.length
 | [],acc=>rfl
 | b::bs,acc=>by rw[Xy,ZFS who bs];simp[ZAv];omega
theorem WOk.goneQ(i:WOk N S):WOk N (Go.Proofs.YtkmniidiifpdgaaGreat.goneQ S q):=by
 unfold Go.Proofs.YtkmniidiifpdgaaGreat.goneQ;split
 .exact i
 .exact i.kill q.ID
theorem ZHp(a:Z7 k S h l)(i:WOk N S)(hN:N<=10000)(hq:∀ s d h',Z7 k (ZAV S who).1 h' (d::l)->Own ZCH d s (ZAV S who).2->WOk N (ZAV S who).1->(ZAV S who).2.length<=1000->Q s h'):
 cx 51 [vp k.p,vi who] cSl h Q:=by
 refine c51 ?_;refine ZU rfl ?_;refine a.new λk1 h1 a1=>?_;have hbl:=i.bl4;have hskl:k.sk.len=S.books.length:=by obtain⟨D,o,dB,dP,dK,cF,cQ,cA,cD,cO,cT,ks,cs,oc,wB,wP,wK,wF,wQ,wA,wD,wO,wT,wb⟩:=a;rw[<-wb.1];exact wK.1
 obtain⟨D,o1,w1⟩:=a1;obtain⟨o2,o3⟩:=On.joined (cs:=[Go.Eng.ob k1 [vi 0,vi 0,Value.slice none 0 0] 191,Hp.emp]) (l:=D::l) ((o1.emp).pick [2,0,1] 3);have wc:ZFB k1 0 0 [] _:=⟨⟨none,0,0⟩,Hp.emp,o3,Own.nil _⟩
 have a2:Z7 k S h1 (_::l):=⟨D,o2.swap,w1⟩
 dsimp only[ZM,DK.p];refine ZK (cd:=cSl) (x:=k.sk) a2.ob (i:=5) rfl ?_;refine Zc (λz h'=>∃ (j:Nat) (C:Hp),z=(j:Int)/\j<=S.books.length/\ZFB k1 0 0 ((S.books.take j).foldl (ZAv who) ([],[])).2 C/\Z7 k {S with books:=((S.books.take j).foldl (ZAv who) ([],[])).1++S.books.drop j} h' (C::l)/\
  WOk N {S with books:=((S.books.take j).foldl (ZAv who) ([],[])).1++S.books.drop j}/\((S.books.take j).foldl (ZAv who) ([],[])).2.length<=128*j) (λz=>S.books.length-z.toNat)
  ⟨0,_,rfl,Xh _,wc,a2,i,Xc _⟩ ?_
 rintro J z h2 r ⟨j,C,rfl,hj,wc,a3,i3,hol⟩
 refine ZG (λhlt=>?_) λhge=>?_
 ·have G:j<S.books.length:=by omega
  have a0:S.books[j]?=some S.books[j]:=Xa G;have y:=ZAB (ZAv who) ([],[]) S.books a0;have F:=ZFS who (S.books.take j) ([],[]);rw[Xk]at F;have V:=i.books _ (Xs G);generalize (S.books.take j).foldl (ZAv who) ([],[])=acc at*;have F:acc.1.length=j:=by simp at F;omega
  have hlt3:j<(acc.1++S.books.drop j).length:=by rw[Xg,XN];omega
  have hget:(acc.1++S.books.drop j)[j]=S.books[j]:=by rw[List.getElem_append_right (by omega)];simp[F]
  obtain⟨_,cb,R,q,o4,w4,hld,cl⟩:=a3.book2 (i:=j) hlt3;have W:({S with books:=acc.1++S.books.drop j}:DS).books[j]=S.books[j]:=hget;rw[W]at w4;refine hld ?_;refine ZH o4 λk2 h5 o5=>?_;have o5:On h5 (cb::C::R::Go.Eng.ob k2 [vi 1,vi 2] 3::l):=o5.pick [1,3,2,0] 4;refine Zc (λz h'=>∃ (t:Nat) (cb C:Hp),z=(t:Int)/\t<=2/\On h' (cb::C::R::Go.Eng.ob k2 [vi 1,vi 2] 3::l)/\Zp q (ZLt who (S.books[j],acc.2) t).1 cb/\ZFB k1 0 0 (ZLt who (S.books[j],acc.2) t).2 C) (λz=>2-z.toNat)
   ⟨0,cb,C,rfl,by omega,o5,w4,wc⟩ ?_
  rintro J2 z Y L ⟨t,cb6,C6,rfl,ht,o6,w6,wc6⟩;have H:=ZQE who (S.books[j],acc.2) t;have hxl:=V.2.2.1;refine ZG (λhlt2=>?_) λhge2=>?_
  .have ht2:t<2:=by omega
   have O:Row ci (Go.Eng.ob k2 [vi 1,vi 2] 3) ⟨sj k2,2,2⟩ [1,2]:=Zk (by rfl) rfl;have hv:([1,2]:List Int)[t]?=some ((t:Int)+1):=by rcases(show t=0\/t=1 by omega)with rfl|rfl<;>rfl
   refine ZN O (Xb t) (by simp;omega) λp hp=>ZQ O (o6.mem (by simp)) rfl hp (i:=t) hv rfl ?_;refine ZNg (m:=S.seq) o6 w6 wc6 (V.sub H.1) (by dsimp only at H;omega) λcb7 C7 h7 o7 w7 wc7=>?_;rw[Z1 (by omega)];refine L _ _ ⟨t+1,cb7,C7,rfl,by omega,o7,?_,?_⟩ (by omega)
   .rcases (show t=0\/t=1 by omega)with rfl|rfl
    .exact w7
    .exact w7
   .rcases (show t=0\/t=1 by omega)with rfl|rfl
    .exact wc7
    .exact wc7
  .have ht2:t=2:=by omega
   subst ht2;have a7:=cl Y cb6 _ _ (o6.pick [0,2,1] 4) w6;have M:(acc.1++S.books.drop j).set j (ZAM who (S.books[j],acc.2)).1=(ZAv who acc S.books[j]).1++S.books.drop (j+1):=by rw[Yg _ _ (by omega),F,Wz,XZ G];show acc.1++((ZAM who (S.books[j],acc.2)).1::S.books.drop (j+1))=(acc.1++[(ZAM who (S.books[j],acc.2)).1])++S.books.drop (j+1);simp
   rw[Z1 (by omega)];refine r _ _ ⟨j+1,C6,rfl,by omega,by rw[y];exact wc6,?_,?_,?_⟩ (by omega)
   .rw [y,<-M];exact a7
   .rw [y,<-M];exact i3.book (n:=j) (V.sub H.1)
   .rw [y];show (ZAM who (S.books[j],acc.2)).2.length<=_;have:=(ZBl who (S.books[j],acc.2)).2;dsimp only at this;omega
 ·have X:j=S.books.length:=by omega
  subst X;rw[Xo,XY,Wl]at a3 i3;rw[Xo]at wc hol;have hacc:S.books.foldl (ZAv who) ([],[])=ZCZ who S.books:=rfl;rw[hacc]at wc a3 i3 hol;unfold ZAV at hq;dsimp only at hq;generalize ZCZ who S.books=acc at*;have hd:=i.due hN;refine ZK (cd:=cP) (x:=k.pq) a3.ob (i:=7) rfl ?_;obtain⟨cq,R,o4,w4,cl⟩:=a3.quotes;have hl1:=i.l1;refine Zat o4 w4 (by show S.quotes.length<=_;omega) λs5 c5 d5 h5 o5 w5 I=>?_;have a5:=cl h5 c5 _ _ (o5.pick [0,2,1] 3) w5;have a5:Z7 k {S with books:=acc.1} h5 (d5::C::l):=a5;have I:Own ZP d5 s5 (S.quotes.filter (ofQ who)):=I;have hql:(S.quotes.filter (ofQ who)).length<=S.quotes.length:=Wj _ _;generalize S.quotes.filter (ofQ who)=qs at*;have hlen:=I.1;refine Zc (λz h'=>∃ j:Nat,z=(j:Int)/\j<=qs.length/\Z7 k ((qs.take j).foldl Go.Proofs.YtkmniidiifpdgaaGreat.goneQ {S with books:=acc.1}) h' (d5::C::l)/\WOk N ((qs.take j).foldl Go.Proofs.YtkmniidiifpdgaaGreat.goneQ {S with books:=acc.1})) (λz=>qs.length-z.toNat)
   ⟨0,rfl,Xh _,a5,i3⟩ ?_
  rintro J5 z Y r ⟨j,rfl,hj,a6,Z⟩
  refine ZG (λhlt=>?_) λhge=>?_
  .have G:j<qs.length:=by omega
   have a0:qs[j]?=some qs[j]:=Xa G;have y:=ZAB Go.Proofs.YtkmniidiifpdgaaGreat.goneQ {S with books:=acc.1} qs a0;generalize (qs.take j).foldl Go.Proofs.YtkmniidiifpdgaaGreat.goneQ {S with books:=acc.1}=T at*;rw[Z1 (by omega)];refine ZI (λ_ h'=>Z7 k (Go.Proofs.YtkmniidiifpdgaaGreat.goneQ T qs[j]) h' (d5::C::l)) ?_ λJ6 E=>?_
   .rintro _ h' a';exact r _ _ ⟨j+1,rfl,by omega,by rw[y];exact a',by rw[y];exact Z.goneQ⟩ (by omega)
   .refine ZN I.row (Xb j) (by omega) λp hp=>ZQ I.row (a6.sub (by simp)) rfl hp (i:=j) a0 (by rfl) ?_;refine ZHw (q:=qs[j]) a6 Z hN λh7 a7=>?_;unfold Go.Proofs.YtkmniidiifpdgaaGreat.goneQ at E;refine ZD (λe=>?_) λe=>?_
    .rw [Xd (by simpa using e)]at E;refine ZK (cd:=cP) (x:=k.pq) a7.ob (i:=7) rfl ?_;refine a7.killQ Z hN λt h8 a8=>?_;refine ZK (cd:=cP) (x:=k.pd) a8.ob (i:=9) rfl ?_;exact a8.dropDue (Z.due hN) λt h9 a9=>E _ _ a9
    .rw [Xe (by simpa using e)]at E;exact E _ _ a7
  .have X:j=qs.length:=by omega
   subst X;rw[Xo]at a6 Z;obtain⟨s,d,oc,wd⟩:=wc;have hC:=a6.sub (g:=C) (by simp);have hob:(Go.Eng.ob k1 [vi 0,vi 0,sv s] 191).sub Y:=Hp.sub_trans (oc.mem (by simp)) hC;refine ZK (cd:=cSl) (x:=s) hob (i:=2) rfl ?_;obtain⟨D6,o7,w7⟩:=a6;have o8:On Y (C::D6::l):=o7.pick [2,0] 3;have o9:On Y (Go.Eng.ob k1 [vi 0,vi 0,sv s] 191::d::D6::l):=o8.split oc;exact hq s d Y ⟨D6,o9.pick [2,1] 3,w7⟩ wd Z (by omega)
structure ZEB (S T:DS):Prop where
 bonds:T.bonds=S.bonds
 parties:T.parties=S.parties
 look:T.look=S.look
 books:T.books=S.books
 used:T.used=S.used
 trades:T.trades=S.trades
 order:T.order=S.order
 seq:T.seq=S.seq
 asks:∀ a∈T.asks,∃ a0∈S.asks,a0.ID=a.ID/\a0.Bond=a.Bond/\a0.Side=a.Side/\a0.Qty=a.Qty/\a0.Client=a.Client
theorem ZEB.refl(S:DS):ZEB S S:=⟨rfl,rfl,rfl,rfl,rfl,rfl,rfl,rfl,λa j=>⟨a,j,rfl,rfl,rfl,rfl,rfl⟩⟩
variable {U:DS}
theorem ZEB.trans{T:DS}(h:ZEB S T)(g:ZEB T U):ZEB S U:=
 ⟨by rw[g.bonds,h.bonds],by rw[g.parties,h.parties],by rw[g.look,h.look],by rw[g.books,h.books],by rw[g.used,h.used],by rw[g.trades,h.trades],by rw[g.order,h.order],by rw[g.seq,h.seq],λa M=>by
   obtain⟨b,O,j,r,y,z,E⟩:=g.asks a M;obtain⟨d,V,F,G,H,I,L⟩:=h.asks b O;exact⟨d,V,by rw[F,j],by rw[G,r],by rw[H,y],by rw[I,z],by rw[L,E]⟩⟩
theorem ZEB.quotes(S:DS)(xs:List Za):ZEB S {S with quotes:=xs}:=⟨rfl,rfl,rfl,rfl,rfl,rfl,rfl,rfl,λa j=>⟨a,j,rfl,rfl,rfl,rfl,rfl⟩⟩
theorem ZEB.upd(S:DS)(id:Int)(y:∀ x,(f x).ID=x.ID/\(f x).Bond=x.Bond/\(f x).Side=x.Side/\(f x).Qty=x.Qty/\(f x).Client=x.Client):ZEB S {S with asks:=upd Ask.ID id f S.asks}:=
 ⟨rfl,rfl,rfl,rfl,rfl,rfl,rfl,rfl,λa r=>by
   obtain⟨x,j,rfl|⟨_,rfl⟩⟩:=ZH9 r
   .exact ⟨a,j,rfl,rfl,rfl,rfl,rfl⟩
   .have:=y x;exact⟨x,j,this.1.symm,this.2.1.symm,this.2.2.1.symm,this.2.2.2.1.symm,this.2.2.2.2.symm⟩⟩
theorem ZEB.end(S:DS)(id st:Int):ZEB S {S with asks:=(ZRe S.asks id st).1}:=by
 rcases ZGg S.asks id st with e|e<;>rw[e]
 .exact ZEB.refl S
 .exact ZEB.upd S id λx=>⟨rfl,rfl,rfl,rfl,rfl⟩
theorem ZEB.back(S:DS)(id:Int):ZEB S {S with asks:=(ZG3 S.asks id).1}:=by
 rcases ZFP S.asks id with e|e<;>rw[e]
 .exact ZEB.refl S
 .exact ZEB.upd S id λx=>⟨rfl,rfl,rfl,rfl,rfl⟩
def ZED(os:List Out):Prop:=∀ o∈os,o.Msg_Kind=25\/o.Msg_Kind=27
theorem ZED.add(h:ZED os)(j:kind=25\/kind=27):ZED (os++[ZHL to kind ns]):=λo r=>(Xx.1 r).elim (h o) λe=>by simp only[Xl]at e;subst e;exact j
theorem ZMH(x:Ask)(i:WOk N c.d):ZEB c.d (ZJy c x).d/\WOk N (ZJy c x).d/\(ZED c.outs->ZED (ZJy c x).outs)/\(ZJy c x).outs.length=c.outs.length+1:=
 ⟨(ZEB.end c.d x.ID 4).trans (ZEB.quotes _ _),(i.end x.ID 4).clear x.ID,λh=>h.add (.inr rfl),by simp[ZJy,ZCJ,ZW1]⟩
theorem ZKO(x:Ask)(i:WOk N c.d):ZEB c.d (ZAQ c x).d/\WOk N (ZAQ c x).d/\(ZED c.outs->ZED (ZAQ c x).outs)/\(ZAQ c x).outs.length=c.outs.length+1:=by
 unfold ZAQ;split
 .have:=ZMH (c:=ZGa c x.Hit) x (i.kill x.Hit);exact⟨(ZEB.quotes c.d _).trans this.1,this.2⟩
 .refine ⟨(ZEB.quotes c.d (killQ c.d.quotes x.Hit)).trans (ZEB.back (ZGa c x.Hit).d x.ID),(i.kill x.Hit).back x.ID,λh=>h.add (.inl rfl),by simp[ZCJ,ZGa]⟩
theorem ZDw(x:Int):I64 (i64.wrap x):=by unfold I64;simp only[IntKind.wrap,IntKind.signed,IntKind.bits];simp;split<;>omega
def ZCj(bs:List Bond)(ps:List Z8)(look beat:Int):DS:=⟨bs,ps,look,beat,0,List.replicate bs.length [],List.replicate ps.length 0,[],[],0,[],0,0,0,0⟩
theorem ZV0{b:Bond}(h:ZIt b=true):1<=b.Tick/\1<=b.Lot/\1<=b.Low/\b.High<=1000000/\1<=b.Min/\b.Max<=1000000:=by unfold ZIt inB at h;simp only[Xf,Xw]at h;omega
theorem ZF1{bs:List Bond}{ps:List Z8}{look:Int}(h:ZDH bs ps look beat=true):WOk 0 (ZCj bs ps look beat):=by
 unfold ZDH at h;simp only[Xf]at h;obtain⟨j,r,y,_⟩:=h;unfold inB at j r;have j:=Ww j;have r:=Ww r;have y:bs.any (λb=>!ZIt b)=false:=by simpa using y
 exact {
  bonds:=λb z=>ZV0 (by have:=YK.1 y b z;simpa using this)
  bl:=XX
  bl4:=by show (List.replicate bs.length ([]:List ZE)).length<=4;rw[XX];omega
  books:=λb z=>by have:=Wp z;subst this;exact⟨List.nodup_nil,(λx F=>by cases F),Xh _,λx F=>by cases F⟩
  pl:=by show ps.length<=8;omega
  qs:=YY
  qi:=λq E=>by cases E
  sa:=YY
  ai:=λq E=>by cases E
  c1:=⟨Yi 0,Yi 0⟩
  c2:=⟨Yi 0,Yi 0⟩
  c3:=⟨Yi 0,Yi 0⟩
  c4:=⟨Yi 0,Yi 0⟩
  l1:=Xc 0
  l2:=Xc 0
  l3:=Xc 0
  l4:=Xc 0
  now:=(show I64 0 from ⟨by decide,by decide⟩)}
variable {b:List ZE}{c:Hp}
theorem Books.push(w:Books ps bs cs){p:Option Addr}(M:Zp p b c):Books (ps++[p]) (bs++[b]) (cs++[c]):=by
 obtain⟨F,G,L⟩:=w;refine⟨by simp[F],by simp[G],λj O H I y r z=>?_⟩;by_cases V:j<bs.length
 .rw [XR (by omega)]at y r z;exact L j O H I y r z
 .have E:j=bs.length:=by have:=(Xi.1 r).1;simp at this;omega
  subst E;rw[XJ (by omega)]at y r z;rw[F,Wz]at y;rw[Wz]at r;rw[G,Wz]at z;cases y;cases r;cases z;exact M
variable {Q:Option Addr->Hp->Prop}
theorem ZXd(o:On h l)(r:∀ p c h',On h' (c::l)->ZA6 p [] c->Q p h'):cx 37 [] Go.Eng.cP h Q:=by refine c37 ?_;unfold F37;refine ZH o λk j y=>?_;obtain⟨c,o2,w⟩:=Zv.new (cd:=Zx) y;exact r _ c j o2 w
theorem ZXg(o:On h l)(r:∀ p c h',On h' (c::l)->Z4 p [] c->Q p h'):cx 36 [] Go.Eng.cP h Q:=by refine c36 ?_;unfold F36;refine ZH o λk j y=>?_;obtain⟨c,o2,w⟩:=Zv.new (cd:=ZP) y;exact r _ c j o2 w
variable {bs:List Bond}
theorem ZJF{ps:List Z8}{look:Int}(o:On h l)(hb:gb∈l)(rb:Row Zs gb sb bs)(hp:gp∈l)(rp:Row Zu gp sp ps)(hr:ZDH bs ps look beat=true)(hq:∀ k h',Z7 k (ZCj bs ps look beat) h' l->Q k.p h'):cx 8 [ZAK.enc ⟨sb,sp,look,beat⟩] Go.Eng.cP h Q:=by
 have hi:=ZF1 hr;have hbl:bs.length<=4:=by have:=hi.bl4;unfold ZCj at this;simpa using this
 have hpl:ps.length<=8:=hi.pl;have hr1:1<=bs.length/\1<=ps.length:=by unfold ZDH inB at hr;simp only[Xf,Xw]at hr;omega
 refine c8 (d:=⟨sb,sp,look,beat⟩) ?_;refine ZPx o hb rb hp rp (by omega) (by omega) hr λpF cF h1 o1 wF=>?_;refine ZU (by obtain⟨b,s1,s2,d1,d2,rfl,_⟩:=wF;rfl) ?_;refine ZTw o1 (by simp[hb]) rb (by omega) λs2 dB h2 o2 wB=>?_;refine ZLp o2 (by simp[hp]) rp (by omega) λs3 dP h3 o3 wP=>?_;refine ZXg o3 λpQ X h4 o4 wQ=>?_;refine ZXd o4 λpA O h5 o5 wA=>?_;refine ZYh o5 λpD V h6 o6 wD=>?_;have hlB:=wB.1;have hlP:=wP.1;refine ZXj o6 ⟨by omega,by omega⟩ ⟨by omega,by omega⟩ λpO W h7 o7 wO=>?_;refine ZYB o7 λpT Y h8 o8 wT=>?_;let kk:Nat->Sl->DK:=λb sk=>⟨b,s2,s3,sk,pF,pQ,pA,pD,pO,pT⟩
 refine ZH (vs:=ZAU (kk 0 ⟨none,0,0⟩) (ZCj bs ps look beat)) o8 λE h9 o9=>?_;refine Zc (λz h'=>∃ (j:Nat) (F:Sl) (M:Hp) (ks:List (Option Addr)) (cs:List Hp),z=(j:Int)/\j<=bs.length/\ks.length=j/\On h' (ob E (ZAU (kk E F) (ZCj bs ps look beat)) 121::M::(cs++(Y::W::V::O::X::dP::dB::cF::l)))/\Own Go.Eng.cP M F ks/\Books ks (List.replicate j []) cs) (λz=>bs.length-z.toNat)
  ⟨0,⟨none,0,0⟩,Hp.emp,[],[],rfl,Xh _,rfl,o9.emp.swap,Own.nil _,⟨rfl,rfl,λi p b c h=>by cases h⟩⟩ ?_
 rintro J z Z G ⟨j,F,M,ks,cs,rfl,hj,hkl,H,wK,wb⟩
 refine ZG (λhlt=>?_) λhge=>?_
 .have hj':j<bs.length:=by omega
  refine ZL (cd:=cSl) (x:=F) H 0 (i:=5) rfl rfl ?_;refine ZSP H λp7 c11 h11 r w11=>?_;refine⟨⟨Hp.sub_rds (r.get (i:=1) rfl) (ZBI (i:=5) rfl),trivial⟩,?_⟩;refine ZH r λab h12 y=>?_;have ac:=y.pick [3,0,2,1] 4;refine ZW (cd:=Go.Eng.cP) (g:=ob ab [vp p7] 69) (s:=F) (t:=⟨sj ab,1,1⟩) (ys:=[p7]) ac rfl wK (by decide) (Zk (by rfl) rfl) (y.get (i:=0) rfl) ?_ λd13 p n m h13 I w13=>?_
  .rw [Xv];exact XG (Xr _ (show _<=100 by omega)) (by decide)
  .refine ZX (cd:=cSl) (i:=5) (x:=⟨p,n,m⟩) (vs':=ZAU (kk E ⟨p,n,m⟩) (ZCj bs ps look beat)) (I.pick [2,0,1,3] 4) rfl rfl (by show 5+1<=16;omega) λh14 L=>?_;rw[Z1 (by omega)];refine G _ _ ⟨j+1,⟨p,n,m⟩,d13,ks++[p7],cs++[c11],rfl,by omega,by simp[hkl],?_,w13,?_⟩ (by omega)
   .have o15:=L.pick [0,1,3] 4;refine o15.perm (XQ _ (XQ _ ?_));show (c11::(cs++_)).Perm ((cs++[c11])++_);rw[Xu];exact Wg.symm
   .rw [VW];exact wb.push w11
 .have hje:j=bs.length:=by omega
  subst hje;have r:On Z (ob E (ZAU (kk E F) (ZCj bs ps look beat)) 121::M::Y::W::V::O::X::dP::dB::cF::(cs++l)):=by refine H.perm (XQ _ (XQ _ ?_));exact YA cs [Y,W,V,O,X,dP,dB,cF] l
  have y:=r.pick [0,8,7,1,9,6,5,4,3,2] 10;obtain⟨I,L⟩:=On.joined (cs:=ob E (ZAU (kk E F) (ZCj bs ps look beat)) 121::dB::dP::M::cF::X::O::V::W::Y::cs) (l:=l) y;exact hq (kk E F) Z ⟨_,I,dB,dP,M,cF,X,O,V,W,Y,ks,cs,L,wB,wP,wK,wF,wQ,wA,wD,wO,wT,wb⟩
theorem ZD4(a:Z7 k S h l)(i:WOk N S)(F:N<=10000){Q:Sl->Hp->Prop}(y:∀ s d h',Z7 k S h' (d::l)->Own Zl d s S.trades->Q s h'):cx 11 [vp k.p] cSl h Q:=by refine c11 ?_;refine ZU rfl ?_;dsimp only[ZM,DK.p];refine ZK (cd:=Go.Eng.cP) (x:=k.pt) a.ob (i:=11) rfl ?_;obtain⟨c,R,o,w,r⟩:=a.blots;exact ZWW o w (by have:=i.l4;omega) λs j d h' z w' E=>y s d h' (r h' j _ _ (z.pick [0,2,1] 3) w') E
theorem ZMh(a:Z7 k S h l)(i:WOk N S)(F:N<=10000){Q:Sl->Hp->Prop}(y:∀ s d h',Z7 k S h' (d::l)->Own Zx d s S.asks->Q s h'):cx 12 [vp k.p] cSl h Q:=by refine c12 ?_;refine ZU rfl ?_;dsimp only[ZM,DK.p];refine ZK (cd:=Go.Eng.cP) (x:=k.pa) a.ob (i:=8) rfl ?_;obtain⟨c,R,o,w,r⟩:=a.asks;exact ZRs o w (by have:=i.l2;omega) λs j d h' z w' E=>y s d h' (r h' j _ _ (z.pick [0,2,1] 3) w') E
def ZFp(s:SS)(out:List (List Int)):SS×List (List Int)×Bool:=
 ((ZA7 ((ZCh s).1,out,false) (ZCh s).2.1).1,(ZA7 ((ZCh s).1,out,false) (ZCh s).2.1).2.1,(ZCh s).2.2||(ZA7 ((ZCh s).1,out,false) (ZCh s).2.1).2.2)
theorem ZTd(s:SS):∀ f∈(ZCh s).2.1,wfF f:=by
 have o2:wfF (ZFU 2 0):=ZFM (by unfold I64;omega) (by unfold I64;omega);have r:wfF (ZFU 3 0):=ZFM (by unfold I64;omega) (by unfold I64;omega);have y:wfF (ZFU 5 0):=ZFM (by unfold I64;omega) (by unfold I64;omega);intro f j;unfold ZCh at j;split at j
 .cases j
 ·split at j
  .rw [Xl]at j;subst j;exact y
  .split at j
   .rw [Xl]at j;subst j;exact r
   .split at j
    .rw [Xl]at j;subst j;exact o2
    .cases j
variable {s:SS}
theorem ZRf{p:Option Addr}(o:On h (c::l))(w:ZDW p held lost s out c)(Z:1<=s.beat/\s.beat<=1000)(G:s.sent<=1000000)(H:s.heard<=1000000){Q:Bool->Hp->Prop}(j:∀ V h',On h' (V::l)->ZDW p held lost (ZFp s out).1 (ZFp s out).2.1 V->Q (ZFp s out).2.2 h'):cx 107 [vp p] cB h Q:=by
 obtain⟨b,E,ps,z,cf,cs,cb,rfl,oc,wf,ws,wb⟩:=w;refine c107 ?_;dsimp only[ZM];have os:On h (ob b (Zw E ps z) 223::cf::cs::cb::l):=o.split oc;refine ZU rfl ?_;refine ZL (x:=ps) os 0 rfl rfl ?_;refine ZRx (os.pick [2,0,1,3] 4) ws Z G H λsl F W X o2 w2 L=>?_;have I:On X (ob b (Zw E ps z) 223::cf::F::cb::W::l):=o2.pick [2,3,0,4,1] 5;have ab:=ZRQ s;refine ZH6 I w2 wb (g:=W) (by simp) L (ZTd s) (by omega) λy r Y o4 O M=>?_;obtain⟨o6,o7⟩:=On.joined (cs:=[ob b (Zw E ps z) 223,cf,y,r]) (l:=l) (o4.pick [0,1,2,3] 5);have j:=j _ Y o6 ⟨b,E,ps,z,cf,y,r,rfl,o7,wf,O,M⟩;unfold ZFp at j;dsimp only at j⊢;refine ZD (λe=>?_) λe=>?_
 .have e:(ZCh s).2.2=true:=e;rw[e]at j;exact j
 .have e:(ZCh s).2.2=false:=e;rw[e]at j;simpa using j
structure LS where
 held:List Int
 lost:Nat
 s:SS
 out:List (List Int)
def ZXQ(p:Option Addr)(x:LS)(c:Hp):Prop:=ZDW p x.held x.lost x.s x.out c
def ZKG(ps:List (Option Addr))(bs:List LS)(cs:List Hp):Prop:=
 ps.length=bs.length/\cs.length=bs.length/\∀ (i:Nat) (p:Option Addr) (b:LS) (c:Hp),ps[i]?=some p->bs[i]?=some b->cs[i]?=some c->ZXQ p b c
theorem ZKG.set{bs:List LS}(w:ZKG ps bs cs){p:Option Addr}{b:LS}(H:ps[i]?=some p)(V:ZXQ p b c):ZKG ps (bs.set i b) (cs.set i c):=by
 obtain⟨G,M,O⟩:=w;refine⟨by simpa using G,by simpa using M,λj W I L E y z=>?_⟩;by_cases r:i=j
 .subst r;rw[H]at E;cases E;have F:i<bs.length:=by rw[<-G];exact(Xi.1 H).1
  rw[XM F]at y;rw[XM (by omega)]at z;cases y;cases z;exact V
 .rw [WZ r]at y z;exact O j W I L E y z
theorem ZKG.push{bs:List LS}(w:ZKG ps bs cs){p:Option Addr}{b:LS}(M:ZXQ p b c):ZKG (ps++[p]) (bs++[b]) (cs++[c]):=by
 obtain⟨F,G,L⟩:=w;refine⟨by simp[F],by simp[G],λj O H I y r z=>?_⟩;by_cases V:j<bs.length
 .rw [XR (by omega)]at y r z;exact L j O H I y r z
 .have E:j=bs.length:=by have:=(Xi.1 r).1;simp at this;omega
  subst E;rw[XJ (by omega)]at y r z;rw[F,Wz]at y;rw[Wz]at r;rw[G,Wz]at z;cases y;cases r;cases z;exact M
structure VK where
 b:Nat
 k:DK
 sl:Sl
 ps:List (Option Addr)
def VK.p(v:VK):Option Addr:=sj v.b
structure VS where
 d:DS
 ls:List LS
def ZBv(v:VK):List Value:=[vp v.k.p,sv v.sl]
def Zb6(v:VK)(dL:Hp)(ps:List (Option Addr)):Prop:=Own Go.Eng.cP dL v.sl ps/\ps=v.ps
def ZBg(v:VK)(S:VS)(h:Hp)(l:List Hp):Prop:=
 ∃ (dL D:Hp) (ps:List (Option Addr)) (cs:List Hp),On h (ob v.b (ZBv v) 152::dL::D::(cs++l))/\Zb6 v dL ps/\ZAA v.k S.d D/\ZKG ps S.ls cs
variable {v:VK}{S:VS}
theorem ZBg.ob(a:ZBg v S h l):(Go.Eng.ob v.b (ZBv v) 152).sub h:=by obtain⟨j,D,ps,cs,o,_⟩:=a;exact o.mem (by simp)
theorem ZBg.len(a:ZBg v S h l):v.sl.len=S.ls.length:=by obtain⟨r,D,ps,cs,o,w,_,j⟩:=a;rw[<-j.1];exact w.1.1
theorem ZBg.sub(a:ZBg v S h l)(j:g∈l):g.sub h:=by obtain⟨r,D,ps,cs,o,_⟩:=a;exact o.mem (by simp[j])
theorem ZBg.perm(a:ZBg v S h l)(p:l.Perm l'):ZBg v S h l':=by obtain⟨j,D,ps,cs,o,w⟩:=a;exact⟨j,D,ps,cs,o.perm (((p.append_left cs).cons _).cons _ |>.cons _),w⟩
theorem ZBg.drop(a:ZBg v S h (g::l)):ZBg v S h l:=by obtain⟨j,D,ps,cs,o,w⟩:=a;exact⟨j,D,ps,cs,o.sublist (((List.Sublist.append_left (Xz g l) cs).cons_cons _).cons_cons _ |>.cons_cons _),w⟩
theorem ZBg.new(a:ZBg v S h l){K:Nat->Hp->Prop}(y:∀ b h',ZBg v S h' (Go.Eng.ob b vs e::l)->K b h'):ZJ (.cells vs.toArray e (0,0)) h K:=by obtain⟨j,D,ps,cs,o,w⟩:=a;refine ZH o λb h' z=>y b h' ⟨j,D,ps,cs,z.perm ?_,w⟩;have r:Go.Eng.ob v.b (ZBv v) 152::j::D::(cs++Go.Eng.ob b vs e::l)=(Go.Eng.ob v.b (ZBv v) 152::j::D::cs)++Go.Eng.ob b vs e::l:=rfl;rw[r];exact(Wg (l₁:=Go.Eng.ob v.b (ZBv v) 152::j::D::cs) (a:=Go.Eng.ob b vs e) (l₂:=l)).symm
theorem ZBg.desk(a:ZBg v S h l):∃ R,Z7 v.k S.d h (R::l)/\∀ h' l' T,Z7 v.k T h' (R::l')->ZBg v {S with d:=T} h' l':=by
 obtain⟨j,D,ps,cs,o,G,H,I⟩:=a;have z:On h ((Go.Eng.ob v.b (ZBv v) 152::j::cs)++(D::l)):=by refine o.perm (XQ _ (XQ _ ?_));exact Wg.symm
 obtain⟨o2,E⟩:=On.joined z;refine⟨_,⟨D,o2.swap,H⟩,λh' l' T a'=>?_⟩;obtain⟨r,y,w'⟩:=a';have F:=y.swap.split E;exact⟨j,r,ps,cs,F.perm (XQ _ (XQ _ Wg)),G,w',I⟩
theorem ZBg.line(a:ZBg v S h l)(M:i<S.ls.length):∃ c R q,On h (c::R::l)/\v.ps[i]?=some q/\ZXQ q S.ls[i] c/\(∀ {K:Option Addr->Prop},K q->Zb v.sl.a v.sl.len (i:Int) λa=>ZC Go.Eng.cP (a.add ((i:Int).toNat*1)) h K)/\
 ∀ h' y l' x,On h' (y::R::l')->ZXQ q x y->ZBg v {S with ls:=S.ls.set i x} h' l':=by
 obtain⟨H,D,ps,cs,o,j,w2,E,F,r⟩:=a;have I:cs[i]?=some cs[i]:=Xa (by omega);have z:ps[i]?=some ps[i]:=Xa (by omega);have O:S.ls[i]?=some S.ls[i]:=Xa M;have W:On h ((Go.Eng.ob v.b (ZBv v) 152::H::D::cs)++l):=o;obtain⟨o2,X⟩:=On.joined W;obtain⟨R,Y,_,G⟩:=ZJs o2 X (i:=i+3) I;refine⟨cs[i],R,ps[i],Y,by rw[<-j.2];exact z,r i _ _ _ z O I,λ{K} hK=>?_,λh' y l' x V w'=>?_⟩
 .obtain ⟨j,_⟩:=j;have:=j.1;refine ZN j.row (Xb i) (by omega) λa L=>?_;exact ZQ j.row (o.mem (by simp)) rfl L (i:=i) z rfl hK
 .obtain ⟨D',Z,o6⟩:=G h' _ l' V;exact⟨H,D,ps,cs.set i y,Z.split o6,j,w2,ZKG.set ⟨E,F,r⟩ z w'⟩
theorem ZTI(a:ZBg v S h l){Q:Bool->Hp->Prop}(j:Q (decide (0<=n/\n<S.ls.length)) h):cx 62 [vp v.p,vi n] cB h Q:=by
 refine c62 ?_;refine Zf rfl (ZG (λr=>?_) λr=>?_)
 .dsimp only[ZM,VK.p];refine ZK (cd:=cSl) (x:=v.sl) a.ob (i:=1) rfl ?_;rw[a.len];rwa[show decide (0<=n/\n<(S.ls.length:Int))=decide (n<(S.ls.length:Int)) from XE.2 (by omega)]at j
 .rwa [Xj (by omega)]at j
theorem ZVG(a:ZBg v S h l)(j:Q v.k.p h):cx 27 [vp v.p] Go.Eng.cP h Q:=by refine c27 ?_;refine ZU rfl ?_;dsimp only[ZM,VK.p];exact ZK (cd:=Go.Eng.cP) (x:=v.k.p) a.ob (i:=0) rfl j
theorem ZZB{n:Nat}(a:ZBg v S h l)(F:n<S.ls.length)(G:S.ls[n].out.length<=1000){Q:Sl->Hp->Prop}(H:∀ sl ss r h',ZBg v {S with ls:=S.ls.set n {S.ls[n]with out:=[]}} h' (r::l)->Row cSl r sl ss->ZEb r ss S.ls[n].out->Q sl h'):
 cx 70 [vp v.p,vi (n:Int)] cSl h Q:=by
 refine c70 ?_;refine ZTI a ?_;refine ZU (by rw[XB ⟨Xb n,by omega⟩];rfl) ?_;obtain⟨c,R,q,L,_,O,j,E⟩:=a.line F;dsimp only[ZM,VK.p];refine ZK (cd:=cSl) (x:=v.sl) a.ob (i:=1) rfl ?_;refine j ?_;refine ZWa L O G λsl ss c2 M z o2 V I y=>?_;exact H sl ss M z (E z c2 _ _ (o2.pick [0,2,1] 3) V) I y
def ZDq(o:List (List Int)):Prop:=∃ fs:List ZY,(∀ f∈fs,wfF f)/\o=fs.map λf=>ZBH (ZAm f)
theorem ZDq.nil:ZDq []:=⟨[],by simp,rfl⟩
theorem ZDq.add{o:List (List Int)}(h:ZDq o){f:ZY}(y:wfF f):ZDq (o++[ZBH (ZAm f)]):=by
 obtain⟨fs,r,rfl⟩:=h;refine⟨fs++[f],λg j=>?_,by simp⟩;rcases Xx.1 j with j|j
 .exact r g j
 .simp only[Xl]at j;subst j;exact y
theorem ZFu:∀ (fs:List ZY) (st:SS×List (List Int)×Bool),(∀ f∈fs,wfF f)->ZDq st.2.1->ZDq (ZA7 st fs).2.1
 | [],st,_,h=>h
 | f::fs,st,hf,h=>by
   refine ZFu fs (ZBq st f) (λx j=>hf x (by simp[j])) ?_;unfold ZBq;split
   .exact h.add (hf f (by simp))
   .exact h
theorem ZVO(j:wfF (mkF (s.all.length+1:Nat) m)):(ZAt s m).2.2=true->wfF (ZAt s m).2.1:=by
 unfold ZAt;split
 .intro h;cases h
 .intro _;exact j
structure LOk (A B:Nat) (x:LS):Prop where
 held:ZAD x.held
 hl:x.s.want+x.held.length+x.lost<=B+1
 wf:∀ f∈x.s.all,wfF f
 al:x.s.all.length<=A
 beat:1<=x.s.beat/\x.s.beat<=1000
 sent:x.s.sent<=B
 heard:x.s.heard<=B
 out:x.out.length<=256
 outs:ZDq x.out
variable {x:LS}
theorem LOk.mono(h:LOk A B x)(j:A<=A')(r:B<=B'):LOk A' B' x:=
 {h with hl:=by have:=h.hl;omega,al:=by have:=h.al;omega,sent:=by have:=h.sent;omega,heard:=by have:=h.heard;omega}
def ZKk(o:Out):Msg:=⟨o.Msg_Kind,o.Msg_F_0,o.Msg_F_1,o.Msg_F_2,o.Msg_F_3,o.Msg_F_4,o.Msg_F_5⟩
def ZCF(o:Out):Prop:=∀ n,I64 n->wfF (mkF n (ZKk o))
def lsV(x:LS)(m:Msg):LS:={x with s:=(ZFb x.s x.out m).1,out:=(ZFb x.s x.out m).2.1}
theorem ZND(st:SS×List (List Int)×Bool)(f:ZY):(ZBq st f).1.beat=st.1.beat/\(ZBq st f).1.all=st.1.all/\(ZBq st f).1.want=st.1.want/\(ZBq st f).1.sent=st.1.sent/\(ZBq st f).1.heard=st.1.heard/\((ZBq st f).1.up=true->st.1.up=true)/\(st.2.1.length<=256->(ZBq st f).2.1.length<=256):=by
 unfold ZBq;split
 .exact ⟨rfl,rfl,rfl,rfl,rfl,λh=>h,λh=>by dsimp only;rw[Xg,Xv];omega⟩
 .exact ⟨rfl,rfl,rfl,rfl,rfl,λh=>absurd h (by simp[ZM8]),λh=>h⟩
theorem ZC1:∀ (fs:List ZY) (st:SS×List (List Int)×Bool),(ZA7 st fs).1.beat=st.1.beat/\(ZA7 st fs).1.all=st.1.all/\(ZA7 st fs).1.want=st.1.want/\(ZA7 st fs).1.sent=st.1.sent/\(ZA7 st fs).1.heard=st.1.heard/\((ZA7 st fs).1.up=true->st.1.up=true)/\(st.2.1.length<=256->(ZA7 st fs).2.1.length<=256)
 | [],st=>⟨rfl,rfl,rfl,rfl,rfl,λh=>h,λh=>h⟩
 | f::fs,st=>by have j:=ZND st f;have r:=ZC1 fs (ZBq st f);refine⟨r.1.trans j.1,r.2.1.trans j.2.1,r.2.2.1.trans j.2.2.1,r.2.2.2.1.trans j.2.2.2.1,r.2.2.2.2.1.trans j.2.2.2.2.1,λh=>j.2.2.2.2.2.1 (r.2.2.2.2.2.1 h),λh=>r.2.2.2.2.2.2 (j.2.2.2.2.2.2 h)⟩
theorem ZNK(s:SS)(m:Msg)(y:wfF (mkF (s.all.length+1:Nat) m))(r:∀ f∈s.all,wfF f):(ZAt s m).1.beat=s.beat/\(∀ f∈(ZAt s m).1.all,wfF f)/\(ZAt s m).1.all.length<=s.all.length+1/\(ZAt s m).1.want=s.want/\(ZAt s m).1.sent<=s.sent/\(ZAt s m).1.heard=s.heard/\((ZAt s m).1.up=true->s.up=true):=by
 unfold ZAt;split
 .exact ⟨rfl,r,by dsimp only;omega,rfl,Xc _,rfl,λh=>h⟩
 .refine ⟨rfl,λf j=>?_,by simp,rfl,by dsimp only;split<;>omega,rfl,λh=>h⟩;rcases Xx.1 j with j|j
  .exact r f j
  .simp only[Xl]at j;subst j;exact y
theorem Zbx(h:LOk A B x)(F:wfF (mkF (x.s.all.length+1:Nat) m)):LOk (A+1) B (lsV x m)/\((lsV x m).s.up=true->x.s.up=true):=by
 have j:=ZNK x.s m F h.wf;have e:(lsV x m).held=x.held/\(lsV x m).lost=x.lost:=⟨rfl,rfl⟩
 have key:(lsV x m).s.beat=x.s.beat/\(∀ f∈(lsV x m).s.all,wfF f)/\(lsV x m).s.all.length<=x.s.all.length+1/\(lsV x m).s.want=x.s.want/\(lsV x m).s.sent<=x.s.sent/\(lsV x m).s.heard=x.s.heard/\((lsV x m).s.up=true->x.s.up=true)/\(lsV x m).out.length<=256/\ZDq (lsV x m).out:=by
  have y:=ZVO (s:=x.s) F;unfold lsV ZFb;dsimp only;split
  .rename_i z;have r:=ZC1 [(ZAt x.s m).2.1] ((ZAt x.s m).1,x.out,false);dsimp only at r;exact⟨r.1.trans j.1,by rw[r.2.1];exact j.2.1,by rw[r.2.1];exact j.2.2.1,r.2.2.1.trans j.2.2.2.1,by rw[r.2.2.2.1];exact j.2.2.2.2.1,r.2.2.2.2.1.trans j.2.2.2.2.2.1,λh=>j.2.2.2.2.2.2 (r.2.2.2.2.2.1 h),r.2.2.2.2.2.2 h.out,ZFu _ _ (λf E=>by rw[Xl]at E;subst E;exact y z) h.outs⟩
  .exact ⟨j.1,j.2.1,j.2.2.1,j.2.2.2.1,j.2.2.2.2.1,j.2.2.2.2.2.1,j.2.2.2.2.2.2,h.out,h.outs⟩
 obtain⟨k1,G,X,H,Y,I,L,M,O⟩:=key;have V:=h.al;have W:=h.sent;exact⟨⟨by rw[e.1];exact h.held,by rw[e.1,e.2,H];exact h.hl,G,by omega,by rw[k1];exact h.beat,by omega,by rw[I];exact h.heard,M,O⟩,L⟩
def ZBX(st:List LS×List Bool)(o:Out):List LS×List Bool:=
 if 0<=o.To/\o.To<st.1.length then match st.1[o.To.toNat]? with
  | none=>st
  | some x=>(st.1.set o.To.toNat (lsV x (ZKk o)),st.2.set o.To.toNat ((st.2[o.To.toNat]?).getD false||(x.s.up&&!(lsV x (ZKk o)).s.up)))
 else st
def ZBJ(ls:List LS)(os:List Out):List LS×List Bool:=os.foldl ZBX (ls,List.replicate ls.length false)
def ups(ls:List LS):Nat:=(ls.filter λx=>x.s.up).length
def ZDd(bs:List Bool):Nat:=(bs.filter id).length
theorem ZHR{α:Type}(φ:α->Bool):∀ (l:List α) (i:Nat) (x y:α),l[i]?=some x->((l.set i y).filter φ).length+(if φ x then 1 else 0)=(l.filter φ).length+(if φ y then 1 else 0)
 | [],i,x,y,h=>by simp at h
 | a::l,0,x,y,h=>by
   simp only[YQ,XT]at h;subst h;simp only[YD,Wh];split<;>split<;>simp_all<;>omega
 | a::l,i+1,x,y,h=>by simp only[Yh]at h;have:=ZHR φ l i x y h;simp only[List.set_cons_succ,Wh];split<;>(try simp only[XI])<;>omega
variable {st:List LS×List Bool}
theorem ZVv{o:Out}(h:∀ x∈st.1,LOk A B x)(O:ZCF o)(V:A<=1000000000)(hl:st.2.length=st.1.length):
 (∀ x∈(ZBX st o).1,LOk (A+1) B x)/\(ZBX st o).1.length=st.1.length/\(ZBX st o).2.length=st.1.length/\ups (ZBX st o).1+ZDd (ZBX st o).2<=ups st.1+ZDd st.2/\∀ (i:Nat) (x:LS),(ZBX st o).1[i]?=some x->x.s.up=true->∃ y:LS,st.1[i]?=some y/\y.s.up=true:=by
 have I:∀ x∈st.1,LOk (A+1) B x:=λx E=>(h x E).mono (by omega) (Xc _);unfold ZBX;split
 .rename_i W;have r:o.To.toNat<st.1.length:=by omega
  rw[Xa r];dsimp only;have E:=h _ (Xs r);have G:=Zbx (m:=ZKk o) E (O _ (by have:=E.al;unfold I64;omega));have L:st.1[o.To.toNat]?=some st.1[o.To.toNat]:=Xa r;generalize st.1[o.To.toNat]=x at*;refine⟨λy j=>?_,by rw[Xp],by rw[Xp];exact hl,?_,λi y j F=>?_⟩
  .rcases XK j with j|j
   .exact I y j
   .subst j;exact G.1
  .have z:o.To.toNat<st.2.length:=by omega
   have c1:=ZHR (λx=>x.s.up) st.1 o.To.toNat x (lsV x (ZKk o)) L;have c2:=ZHR id st.2 o.To.toNat st.2[o.To.toNat] (st.2[o.To.toNat]||(x.s.up&&!(lsV x (ZKk o)).s.up)) (Xa z);rw[Xa z];unfold ups ZDd;show _+(List.filter id (st.2.set o.To.toNat (st.2[o.To.toNat]||(x.s.up&&!(lsV x (ZKk o)).s.up)))).length<=_;have H:=G.2;generalize (lsV x (ZKk o)).s.up=u at*;generalize x.s.up=w at*;generalize st.2[o.To.toNat]=t at*;cases u<;>cases w<;>cases t<;>simp at c1 c2 H⊢<;>omega
  .by_cases M:o.To.toNat=i
   .subst M;rw[XM r]at j;cases j;exact⟨x,L,G.2 F⟩
   .rw [WZ M]at j;exact⟨y,j,F⟩
 .exact ⟨I,rfl,hl,Xc _,λi x E F=>⟨x,E,F⟩⟩
theorem ZHf{B:Nat}:∀ (os:List Out) {A:Nat} {st:List LS×List Bool},(∀ x∈st.1,LOk A B x)->(∀ o∈os,ZCF o)->A+os.length<=1000000000->st.2.length=st.1.length->
 (∀ x∈(os.foldl ZBX st).1,LOk (A+os.length) B x)/\(os.foldl ZBX st).1.length=st.1.length/\(os.foldl ZBX st).2.length=st.1.length/\ups (os.foldl ZBX st).1+ZDd (os.foldl ZBX st).2<=ups st.1+ZDd st.2/\∀ (i:Nat) (x:LS),(os.foldl ZBX st).1[i]?=some x->x.s.up=true->∃ y:LS,st.1[i]?=some y/\y.s.up=true
 | [],A,st,h,ho,hA,hl=>⟨h,rfl,hl,Xc _,λi x r E=>⟨x,r,E⟩⟩
 | o::os,A,st,h,ho,hA,hl=>by rw[XI]at hA;have j:=ZVv (A:=A) (B:=B) (st:=st) (o:=o) h (ho o (by simp)) (by omega) hl;have z:=ZHf os (A:=A+1) (st:=ZBX st o) j.1 (λx r=>ho x (by simp[r])) (by omega) (by rw[j.2.2.1,j.2.1]);rw[Xy,XI];refine⟨λx r=>(z.1 x r).mono (by omega) (Xc _),by rw[z.2.1,j.2.1],by rw[z.2.2.1,j.2.1],by have:=j.2.2.2.1;have:=z.2.2.2.1;omega,λi x r E=>?_⟩;obtain⟨y,G,F⟩:=z.2.2.2.2 i x r E;exact j.2.2.2.2 i y G F
theorem ZTe:∀ n:Nat,Z0 n [Value.bool false]=ZO cB (List.replicate n false)
 | 0=>rfl
 | n+1=>by show Value.bool false::Z0 n [Value.bool false]=Value.bool false::ZO cB (List.replicate n false);rw[ZTe n]
theorem ZXW{k n:Nat}:Own cB (ob k (Z0 n [Value.bool false]) e) ⟨sj k,n,n⟩ (List.replicate n false):=
 ZAx (rest:=[]) (by rw[ZTe,Wl]) (by simp) (by simp)
theorem ZQz{bs:List Bool}{x:Bool}(a:ZBg v S h (d::l))(w:Own cB d sl bs)(G:i<bs.length)(F:∀ r h',ZBg v S h' (r::l)->Own cB r sl (bs.set i x)->K h'):
 Zb sl.a sl.len (i:Int) λp=>ZS cB (p.add ((i:Int).toNat*1)) x h K:=by
 have:=w.1;refine ZN w.row (Xb i) (by omega) λp H=>?_;obtain⟨j,D,ps,cs,o,L⟩:=a;have y:∀ z:Hp,ob v.b (ZBv v) 152::j::D::(cs++z::l)=(ob v.b (ZBv v) 152::j::D::cs)++z::l:=λ_=>rfl;have I:On h (d::((ob v.b (ZBv v) 152::j::D::cs)++l)):=o.perm (by rw[y];exact Wg);refine ZA4 I rfl w H (i:=i) G rfl λd2 E o2 M=>?_;refine F d2 E ⟨j,D,ps,cs,o2.perm ?_,L⟩ M;rw[y];exact Wg.symm
theorem ZO6{p:Sl}(a:ZBg v S h l)(hg:g∈l)(r:Row ZCH g p os)(hx:∀ x∈S.ls,LOk A B x)(ho:∀ o∈os,ZCF o)(hA:A+os.length<=1000000000)(hn:S.ls.length<=1000){Q:Sl->Hp->Prop}(hq:∀ sl d h',ZBg v {S with ls:=(ZBJ S.ls os).1} h' (d::l)->Own cB d sl (ZBJ S.ls os).2->Q sl h'):cx 110 [vp v.p,Value.slice p.a p.len p.cap] cSl h Q:=by
 refine c110 ?_;have hlen:=r.1;have hvl:=a.len;dsimp only[ZM,VK.p];refine ZK (cd:=cSl) (x:=v.sl) a.ob (i:=1) rfl ?_;refine⟨by omega,by omega,by omega,by omega,?_⟩;refine a.new λk1 h1 a1=>?_;have en:((v.sl.len:Int)).toNat=S.ls.length:=by omega
 rw[en]at a1⊢;unfold ZBJ at hq;refine Zc (λz h'=>∃ (j:Nat) (d:Hp),z=(j:Int)/\j<=os.length/\ZBg v {S with ls:=((os.take j).foldl ZBX (S.ls,List.replicate S.ls.length false)).1} h' (d::l)/\Own cB d ⟨sj k1,S.ls.length,S.ls.length⟩ ((os.take j).foldl ZBX (S.ls,List.replicate S.ls.length false)).2) (λz=>os.length-z.toNat)
  ⟨0,_,rfl,Xh _,a1,ZXW⟩ ?_
 rintro J z h2 I ⟨j,d,rfl,hj,G,H⟩
 have O:=ZHf (B:=B) (os.take j) (A:=A) (st:=(S.ls,List.replicate S.ls.length false)) hx (λo ho'=>ho o (WN ho')) (by rw[Xk];omega) (by simp);refine ZG (λhlt=>?_) λhge=>?_
 ·have V:j<os.length:=by omega
  have a0:os[j]?=some os[j]:=Xa V;have F:=ZAB ZBX (S.ls,List.replicate S.ls.length false) os a0;have W:=ho _ (Xs V);rw[Xk]at O;generalize os[j]=o at a0 F W;generalize (os.take j).foldl ZBX (S.ls,List.replicate S.ls.length false)=st at*;obtain⟨ls,dn⟩:=st;dsimp only at G H O F;obtain⟨s1,s2,s3,_⟩:=O;rw[Z1 (by omega)];refine ZI (λ_ h'=>∃ d,ZBg v {S with ls:=(ZBX (ls,dn) o).1} h' (d::l)/\Own cB d ⟨sj k1,S.ls.length,S.ls.length⟩ (ZBX (ls,dn) o).2) ?_ λJ2 y=>?_
  .rintro _ h' ⟨d',a',w'⟩;exact I _ _ ⟨j+1,d',rfl,by omega,by rw[F];exact a',by rw[F];exact w'⟩ (by omega)
  .refine ZN r (Xb j) (by omega) λp hp=>ZQ r (G.sub (by simp[hg])) rfl hp (i:=j) a0 (by rfl) ?_;refine ZTI G ?_;dsimp only;unfold ZBX at y;dsimp only at y;refine ZD (λe=>?_) λe=>?_
   .have e:¬(0<=o.To/\o.To<(ls.length:Int)):=by simpa only[Ym,Wc]using e
    rw[Xd e]at y;exact y _ _ ⟨d,G,H⟩
   .have e:0<=o.To/\o.To<ls.length:=by simpa using e
    rw[Xe e]at y;generalize o.To=n at*;obtain⟨m,rfl⟩:=Wd e.1;have hm:m<ls.length:=by omega
    have M:m<dn.length:=by omega
    simp only[XD]at y;rw[Xa hm,Xa M]at y;dsimp only[Option.getD_some]at y;have hxm:=s1 _ (Xs hm);refine ZK (cd:=cSl) (x:=v.sl) G.ob (i:=1) rfl ?_;obtain⟨c3,R,q,o3,_,w3,ab,cl⟩:=G.line (i:=m) hm;refine ab ?_;refine ZKH (o3.mem (by simp)) w3 ?_;have hal:=hxm.al;refine ZQ4 (m:=ZKk o) o3 w3 (by show ls[m].s.all.length<=_;omega) (W _ (by show I64 ((ls[m].s.all.length+1:Nat):Int);unfold I64;omega)) λc4 Y o4 w4=>?_;have a4:ZBg v {S with ls:=ls.set m (lsV ls[m] (ZKk o))} Y (d::l):=cl Y c4 _ (lsV ls[m] (ZKk o)) o4 w4;have Z:=H.1;dsimp only at Z;have hwr:∀ {K:Bool->Prop},K dn[m]->Zb (sj k1) S.ls.length (m:Int) λp=>ZC cB (p.add ((m:Int).toNat*1)) Y K:=λ{K} hK=>by refine ZN H.row (Xb m) (by omega) λp hp=>?_;exact ZQ H.row (a4.sub (by simp)) rfl hp (i:=m) (Xa M) (by rfl) hK
    refine hwr ?_;have E:∀ {x:Bool},x=(dn[m]||(ls[m].s.up&&!(lsV ls[m] (ZKk o)).s.up))->Zb (sj k1) S.ls.length (m:Int) λp=>ZS cB (p.add ((m:Int).toNat*1)) x Y λh'=>J2 PUnit.unit h':=λ{x} hx=>by refine ZQz (sl:=⟨sj k1,S.ls.length,S.ls.length⟩) (x:=x) a4 H M λd5 h5 a5 w5=>?_;rw[hx]at w5;exact y _ _ ⟨d5,a5,w5⟩
    refine ZD (λX=>E ?_) λX=>ZD (λL=>?_) λL=>E ?_
    .rw [X];rfl
    .refine ZKH (o4.mem (by simp)) w4 (E ?_);have L:ls[m].s.up=true:=L;rw[X,L];rfl
    .rw [X];have L:ls[m].s.up=false:=L;rw[L];rfl
 .have:j=os.length:=by omega
  subst this;rw[Xo]at G H;exact hq _ d h2 G H
structure FOk (S:DS):Prop where
 bo:∀ b∈S.books,∀ x∈b,I64 x.ID
 qo:∀ q∈S.quotes,I64 q.ID/\I64 q.Expires
 ao:∀ a∈S.asks,I64 a.Side/\I64 a.Ends/\I64 a.Hit
theorem ZSn(j:-9223372036854775808<=n)(r:n<=9223372036854775807):I64 n:=⟨j,r⟩
theorem ZEP(z:I64 kind)(E:∀ n∈ns,I64 n):ZCF (ZHL to kind ns):=by
 have y:∀ i,I64 (ns.getD i 0):=λi=>ZRS E i;intro n j;unfold wfF mkF ZKk ZHL;intro x r;simp only[ZDt,fs,Xm,XW,Ye]at r;rcases r with rfl|rfl|rfl|rfl|rfl|rfl|rfl|rfl
 .exact j
 .exact z
 all_goals exact y _
theorem ZO9(h:ZCy t):∀ o∈ZIs t,ZCF o:=by obtain⟨y,z,E,F,G,H,I,L⟩:=h;intro o j n M;unfold ZIs Zby at j;simp only[Xm,XW,Ye]at j;unfold wfF mkF ZKk;intro x r;rcases j with rfl|rfl<;>simp only[ZDt,fs,Xm,XW,Ye]at r<;>rcases r with rfl|rfl|rfl|rfl|rfl|rfl|rfl|rfl<;>first|assumption|(exact ZSn (by omega) (by omega))
theorem ZJq{who:Int}{P:ZE->Prop}:∀ (os:List ZE) (st:List ZE×List Out),(∀ o∈os,P o)->(∀ o,P o->o.Owner=who->ZCF (ZHL who 21 [o.ID,o.Left]))->(∀ o∈st.2,ZCF o)->∀ o∈(os.foldl (ZDz who) st).2,ZCF o
 | [],st,_,_,h=>h
 | x::os,st,hP,hO,h=>by
   rw[Xy];refine ZJq os (ZDz who st x) (λo j=>hP o (by simp[j])) hO ?_;unfold ZDz;split
   .rename_i e;intro o j;rcases Xx.1 j with j|j
    .exact h o j
    .simp only[Xl]at j;subst j;exact hO x (hP x (by simp)) e
   .exact h
theorem ZL8(r:I64 o.ID)(y:1<=o.Left/\o.Left<=1000000):ZCF (ZHL who 21 [o.ID,o.Left]):=ZEP (ZSn (by omega) (by omega)) λn j=>by
 simp only[Xm,XW,Ye]at j;rcases j with rfl|rfl
 .exact r
 .exact ZSn (by omega) (by omega)
theorem ZNE{m:Int}(y:ZAu m b)(z:∀ x∈b,I64 x.ID)(r:∀ o∈os,ZCF o):∀ o∈(ZAM who (b,os)).2,ZCF o:=by
 unfold ZAM;have E:∀ o∈(ZAS who 1 (b,os)).2,ZCF o:=by unfold ZAS;exact ZJq (P:=λo=>o∈b) _ _ (λo r=>(ZAR.1 r).1) (λo j _=>ZL8 (z o j) ⟨(y.2.1 o j).1,(y.2.1 o j).2.1⟩) r
 have F:=(ZDG who 1 (b,os)).1;generalize ZAS who 1 (b,os)=st at*;unfold ZAS;exact ZJq (P:=λo=>o∈b) _ _ (λo r=>F.subset (ZAR.1 r).1) (λo j _=>ZL8 (z o j) ⟨(y.2.1 o j).1,(y.2.1 o j).2.1⟩) E
theorem ZJN{who m:Int}:∀ (bs:List (List ZE)) (acc:List (List ZE)×List Out),(∀ b∈bs,ZAu m b/\∀ x∈b,I64 x.ID)->(∀ b∈acc.1,∀ x∈b,I64 x.ID)->(∀ o∈acc.2,ZCF o)->
 (∀ b∈(bs.foldl (ZAv who) acc).1,∀ x∈b,I64 x.ID)/\∀ o∈(bs.foldl (ZAv who) acc).2,ZCF o
 | [],acc,_,h1,h2=>⟨h1,h2⟩
 | b::bs,acc,hb,h1,h2=>by
   rw[Xy];have j:=hb b (by simp);refine ZJN bs (ZAv who acc b) (λx z=>hb x (by simp[z])) (λy r=>?_) (ZNE j.1 j.2 h2);rcases Xx.1 r with r|r
   .exact h1 y r
   .simp only[Xl]at r;subst r;exact λx z=>j.2 x ((ZBl who (b,acc.2)).1.subset z)
theorem ZM6(S:DS)(q:Za):(goneQ S q).books=S.books/\(goneQ S q).asks=S.asks/\(goneQ S q).trades=S.trades:=by unfold goneQ;split<;>exact⟨rfl,rfl,rfl⟩
theorem ZGo:∀ (qs:List Za) (S:DS),(qs.foldl goneQ S).books=S.books/\(qs.foldl goneQ S).asks=S.asks/\(qs.foldl goneQ S).trades=S.trades
 | [],S=>⟨rfl,rfl,rfl⟩
 | q::qs,S=>by have j:=ZM6 S q;have r:=ZGo qs (goneQ S q);rw[Xy];exact⟨r.1.trans j.1,r.2.1.trans j.2.1,r.2.2.trans j.2.2⟩
theorem ZJz{xs:List Za}{id:Int}(h:∀ q∈xs,I64 q.ID/\I64 q.Expires):∀ q∈killQ xs id,I64 q.ID/\I64 q.Expires:=λq r=>by
 obtain⟨x,j,rfl|⟨_,rfl⟩⟩:=ZH9 r
 .exact h q j
 .exact h x j
theorem ZOe:∀ (qs:List Za) (S:DS),FOk S->FOk (qs.foldl goneQ S)
 | [],S,h=>h
 | q::qs,S,h=>by
   rw[Xy];refine ZOe qs (goneQ S q) ?_;unfold goneQ;split
   .exact h
   .exact {h with qo:=ZJz h.qo}
theorem ZJc{S:DS}(i:WOk N S)(f:FOk S):FOk (ZAV S who).1/\∀ o∈(ZAV S who).2,ZCF o:=by have h:=ZJN (who:=who) (m:=S.seq) S.books ([],[]) (λb j=>⟨i.books b j,f.bo b j⟩) (by simp) (by simp);exact⟨ZOe _ _ {f with bo:=h.1},h.2⟩
theorem ZHi(S:DS)(who:Int):(ZAV S who).1.books=(ZCZ who S.books).1/\(ZAV S who).1.asks=S.asks/\(ZAV S who).1.trades=S.trades:=ZGo _ _
def ZDN(a b:List Bool):List Bool:=List.zipWith (λx y=>x||y) a b
def ZAj(acc:VS×List Bool)(p:Bool×Nat):VS×List Bool:=
 if p.1=true then (⟨(ZAV acc.1.d p.2).1,(ZBJ acc.1.ls (ZAV acc.1.d p.2).2).1⟩,ZDN acc.2 (ZBJ acc.1.ls (ZAV acc.1.d p.2).2).2) else acc
def ZEG(S:VS)(dn:List Bool):VS×List Bool:=dn.zipIdx.foldl ZAj (S,List.replicate S.ls.length false)
inductive ZFA:VS->List Bool->VS->Prop
 | done {S:VS} {dn:List Bool}:dn.any id=false->ZFA S dn S
 | step {S S':VS} {dn:List Bool}:dn.any id=true->ZFA (ZEG S dn).1 (ZEG S dn).2 S'->ZFA S dn S'
def ZSh(S:VS)(os:List Out)(S':VS):Prop:=ZFA ⟨S.d,(ZBJ S.ls os).1⟩ (ZBJ S.ls os).2 S'
structure VOk (N A B:Nat) (S:VS):Prop where
 w:WOk N S.d
 f:FOk S.d
 l:∀ x∈S.ls,LOk A B x
 n:S.ls.length<=8
theorem VOk.mono(h:VOk N A B S)(j:N<=N')(r:A<=A')(y:B<=B'):VOk N' A' B' S:=⟨h.w.mono j,h.f,λx z=>(h.l x z).mono r y,h.n⟩
theorem ZH0:∀ (a b:List Bool),ZDd (ZDN a b)<=ZDd a+ZDd b
 | [],_=>by simp[ZDN,ZDd]
 | _::_,[]=>by simp[ZDN,ZDd]
 | x::a,y::b=>by have:=ZH0 a b;unfold ZDN ZDd at*;simp only[List.zipWith_cons_cons,Wh];cases x<;>cases y<;>simp<;>omega
theorem ZLg(n:Nat):ZDd (List.replicate n false)=0:=by unfold ZDd;rw[VQ.2 (λx j=>by rw[Wp j];simp)];rfl
theorem ZRk(h:dn.any id=true):1<=ZDd dn:=by obtain⟨x,r,j⟩:=WC.1 h;unfold ZDd;exact List.length_pos_of_mem (Wk.2 ⟨r,j⟩)
theorem ZFK{ls:List LS}(z:∀ x∈ls,LOk A B x)(r:∀ o∈os,ZCF o)(j:A+os.length<=1000000000):
 (∀ x∈(ZBJ ls os).1,LOk (A+os.length) B x)/\(ZBJ ls os).1.length=ls.length/\(ZBJ ls os).2.length=ls.length/\ups (ZBJ ls os).1+ZDd (ZBJ ls os).2<=ups ls/\∀ (i:Nat) (x:LS),(ZBJ ls os).1[i]?=some x->x.s.up=true->∃ y:LS,ls[i]?=some y/\y.s.up=true:=by
 have:=ZHf (B:=B) os (A:=A) (st:=(ls,List.replicate ls.length false)) z r j (by simp);dsimp only at this;rw[ZLg]at this;exact this
theorem ZIS{who:Int}:∀ (bs:List (List ZE)) (acc:List (List ZE)×List Out),(∀ b∈bs,b.length<=64)->(bs.foldl (ZAv who) acc).2.length<=acc.2.length+128*bs.length
 | [],acc,_=>Xc _
 | b::bs,acc,h=>by rw[Xy];have j:=ZIS (who:=who) bs (ZAv who acc b) λx z=>h x (by simp[z]);have r:=(ZBl who (b,acc.2)).2;have E:=h b (by simp);dsimp only at r;have y:(ZAv who acc b).2=(ZAM who (b,acc.2)).2:=rfl;rw[y]at j;rw[XI];omega
theorem ZNu{N:Nat}:∀ (qs:List Za) (S:DS),WOk N S->WOk N (qs.foldl goneQ S)
 | [],S,h=>h
 | q::qs,S,h=>ZNu qs (goneQ S q) h.goneQ
theorem ZRu{S:DS}(i:WOk N S):WOk N {S with books:=(ZCZ who S.books).1}:=by
 have key:∀ (bs pre:List (List ZE)) (os:List Out),(∀ b∈bs,ZAu S.seq b)->(∀ b∈pre,ZAu S.seq b)->∀ b∈(bs.foldl (ZAv who) (pre,os)).1,ZAu S.seq b:=by
  intro bs;induction bs with
  | nil=>intro pre os _ r;exact r
  | cons b bs E=>
    intro pre os y r;rw[Xy];refine E (pre++[(ZAM who (b,os)).1]) (ZAM who (b,os)).2 (λx j=>y x (by simp[j])) λx j=>?_;rcases Xx.1 j with j|j
    .exact r x j
    .simp only[Xl]at j;subst j;exact(y b (by simp)).sub (ZBl who (b,os)).1
 have hl:(ZCZ who S.books).1.length=S.books.length:=by have:=ZFS who S.books ([],[]);unfold ZCZ;simpa using this
 exact {i with
  bl:=by dsimp only;rw[hl];exact i.bl
  bl4:=by dsimp only;rw[hl];exact i.bl4
  books:=key S.books [] [] i.books (by simp)
  ai:=λa z=>by dsimp only;rw[hl];exact i.ai a z}
theorem ZKn{S:DS}(i:WOk N S):WOk N (ZAV S who).1/\(ZAV S who).2.length<=512:=by refine⟨ZNu _ _ (ZRu i),?_⟩;have:=ZIS (who:=who) S.books ([],[]) λb j=>(i.books b j).2.2.1;have r:=i.bl4;show (ZCZ who S.books).2.length<=512;unfold ZCZ;simp only[Yd]at this;omega
theorem ZRb{acc:VS×List Bool}{p:Bool×Nat}(h:VOk N A B acc.1)(hl:acc.2.length=acc.1.ls.length)(G:A+512<=1000000000):
 VOk N (A+512) B (ZAj acc p).1/\(ZAj acc p).2.length=(ZAj acc p).1.ls.length/\(ZAj acc p).1.ls.length=acc.1.ls.length/\ups (ZAj acc p).1.ls+ZDd (ZAj acc p).2<=ups acc.1.ls+ZDd acc.2/\
  ∀ (i:Nat) (x:LS),(ZAj acc p).1.ls[i]?=some x->x.s.up=true->∃ y:LS,acc.1.ls[i]?=some y/\y.s.up=true:=by
 unfold ZAj;split
 .have F:=ZKn (who:=(p.2:Int)) h.w;have z:=ZJc (who:=(p.2:Int)) h.w h.f;have j:=ZFK (os:=(ZAV acc.1.d (p.2:Int)).2) h.l z.2 (by omega);have H:=ZH0 acc.2 (ZBJ acc.1.ls (ZAV acc.1.d (p.2:Int)).2).2;refine⟨⟨F.1,z.1,λx r=>(j.1 x r).mono (by omega) (Xc _),by dsimp only;rw[j.2.1];exact h.n⟩,?_,j.2.1,?_,j.2.2.2.2⟩
  .dsimp only;unfold ZDN;rw[YM,j.2.1,j.2.2.1,hl,Nat.min_self]
  .have:=j.2.2.2.1;dsimp only;omega
 .exact ⟨h.mono (Xc _) (by omega) (Xc _),hl,rfl,Xc _,λi x r E=>⟨x,r,E⟩⟩
theorem ZLN{N B:Nat}:∀ (ps:List (Bool×Nat)) {A:Nat} {acc:VS×List Bool},VOk N A B acc.1->acc.2.length=acc.1.ls.length->A+512*ps.length<=1000000000->
 VOk N (A+512*ps.length) B (ps.foldl ZAj acc).1/\(ps.foldl ZAj acc).2.length=(ps.foldl ZAj acc).1.ls.length/\(ps.foldl ZAj acc).1.ls.length=acc.1.ls.length/\ups (ps.foldl ZAj acc).1.ls+ZDd (ps.foldl ZAj acc).2<=ups acc.1.ls+ZDd acc.2/\
  ∀ (i:Nat) (x:LS),(ps.foldl ZAj acc).1.ls[i]?=some x->x.s.up=true->∃ y:LS,acc.1.ls[i]?=some y/\y.s.up=true
 | [],A,acc,h,hl,hA=>⟨h.mono (Xc _) (VF _ _) (Xc _),hl,rfl,Xc _,λi x G F=>⟨x,G,F⟩⟩
 | p::ps,A,acc,h,hl,hA=>by rw[XI]at hA;have z:A+512<=1000000000:=XG (by rw[Nat.mul_add];exact Nat.add_le_add_left (Nat.le_add_left _ _) _) hA;have E:A+512+512*ps.length<=1000000000:=XG (by rw[Nat.mul_add,Nat.mul_one];exact Nat.le_of_eq (by rw[Vi,VN 512])) hA;have j:=ZRb (p:=p) h hl z;have r:=ZLN ps (A:=A+512) (acc:=ZAj acc p) j.1 j.2.1 E;rw[Xy,XI];refine⟨r.1.mono (Xc _) (Nat.le_of_eq (by rw[Nat.mul_add,Nat.mul_one,Vi,VN 512])) (Xc _),r.2.1,r.2.2.1.trans j.2.2.1,XG r.2.2.2.1 j.2.2.2.1,λi x G F=>?_⟩;obtain⟨y,I,H⟩:=r.2.2.2.2 i x G F;exact j.2.2.2.2 i y I H
theorem ZWI(a b:List Bool)(t:Nat)(j:t<a.length)(r:a.length=b.length):(ZDN (a.take t) (b.take t)++a.drop t).set t (a[t]||b[t]'(by omega))=ZDN (a.take (t+1)) (b.take (t+1))++a.drop (t+1):=by
 have hl:(ZDN (a.take t) (b.take t)).length=t:=by unfold ZDN;rw[YM,Xk,Xk];omega
 rw[Yg _ _ (by omega),hl,Wz,XZ j];have e:ZDN (a.take (t+1)) (b.take (t+1))=ZDN (a.take t) (b.take t)++[a[t]||b[t]'(by omega)]:=by unfold ZDN;rw[XH,XH,Xa j,Xa (by omega),List.zipWith_append (by rw[Xk,Xk];omega)];rfl
 rw[e,Xu];rfl
theorem ZWJ{n:Nat}{xs:List Bool}(a:ZBg v S h (dm::dk::l))(wk:Own cB dk ⟨sj k1,n,n⟩ xs)(wm:Own cB dm s4 ys)(W:xs.length=ys.length)(hl:xs.length<=1000)(hK:∀ d' h',ZBg v S h' (d'::l)->Own cB d' ⟨sj k1,n,n⟩ (ZDN xs ys)->K h'):
 Ze (0:Int) h fun (J4:Int->Hp->Prop) n1 h8=>ZB (decide (n1<(s4.len:Int)))
   (ZT (fun (u1:PUnit) h9=>J4 (i64.wrap (n1+1)) h9) λH=>Zb s4.a s4.len n1 λa4=>ZC cB (a4.add (n1.toNat*1)) h8 λt3=>Zb (some {block:=k1,off:=0}) n n1 λa5=>ZC cB (a5.add (n1.toNat*1)) h8 λt4=>
     ZB t4 (Zb (some {block:=k1,off:=0}) n n1 λa6=>ZS cB (a6.add (n1.toNat*1)) true h8 λy=>H PUnit.unit y)
      (Zb (some {block:=k1,off:=0}) n n1 λa7=>ZS cB (a7.add (n1.toNat*1)) t3 h8 λO=>H PUnit.unit O)) (K h8):=by
 have hlm:=wm.1;have Y:=wk.1;dsimp only at Y;refine Zc (λz h'=>∃ (t:Nat) (dk:Hp),z=(t:Int)/\t<=xs.length/\ZBg v S h' (dk::dm::l)/\Own cB dk ⟨sj k1,n,n⟩ (ZDN (xs.take t) (ys.take t)++xs.drop t)) (λz=>xs.length-z.toNat)
  ⟨0,dk,rfl,Xh _,a.perm (Xt _ _ _),by simpa[ZDN]using wk⟩ ?_
 rintro J z h2 r ⟨t,L,rfl,ht,I,G⟩
 refine ZG (λhlt=>?_) λhge=>?_
 .have F:t<xs.length:=by omega
  have E:(ZDN (xs.take t) (ys.take t)).length=t:=by unfold ZDN;rw[YM,Xk,Xk];omega
  have hl3:(ZDN (xs.take t) (ys.take t)++xs.drop t).length=xs.length:=by rw[Xg,E,XN];omega
  have hg:(ZDN (xs.take t) (ys.take t)++xs.drop t)[t]?=some xs[t]:=by rw[XJ (by omega),E,Wz,Wr,Vq,Xa F]
  have X:ys[t]?=some (ys[t]'(by omega)):=Xa (by omega);have ZFh:=ZWI xs ys t F W;rw[Z1 (by omega)];refine ZI (λ_ h'=>∃ dk,ZBg v S h' (dk::dm::l)/\Own cB dk ⟨sj k1,n,n⟩ (ZDN (xs.take (t+1)) (ys.take (t+1))++xs.drop (t+1))) ?_ λH V=>?_
  .rintro _ h' ⟨M,a3,w3⟩;exact r _ _ ⟨t+1,M,rfl,by omega,a3,w3⟩ (by omega)
  .refine ZN wm.row (Xb t) (by omega) λp Z=>ZQ wm.row (I.sub (by simp)) rfl Z (i:=t) X (by rfl) ?_;refine ZN G.row (Xb t) (by omega) λp Z=>ZQ G.row (I.sub (by simp)) rfl Z (i:=t) hg (by rfl) ?_;have j:∀ {x:Bool},x=(xs[t]||ys[t]'(by omega))->Zb (some {block:=k1,off:=0}) n (t:Int) λa6=>ZS cB (a6.add ((t:Int).toNat*1)) x h2 λy=>H PUnit.unit y:=λ{x} hx=>by refine ZQz (sl:=⟨sj k1,n,n⟩) (x:=x) I G (by omega) λd5 h5 a5 w5=>?_;rw[hx,ZFh]at w5;exact V _ _ ⟨d5,a5,w5⟩
   refine ZD (λe=>j ?_) λe=>j ?_
   .have e:xs[t]=true:=e;rw[e];rfl
   .have e:xs[t]=false:=e;rw[e];rfl
 .have ab:t=xs.length:=by omega
  subst ab;rw[Xo,XY,Wl,XU (by omega)]at G;exact hK L h2 ((I.perm (Xt _ _ _)).drop) G
theorem ZIU:∀ (ps:List (Bool×Nat)) (acc:VS×List Bool),(∀ p∈ps,p.1=false)->ps.foldl ZAj acc=acc
 | [],acc,_=>rfl
 | p::ps,acc,h=>by
   have e:ZAj acc p=acc:=by unfold ZAj;rw[Xd (by rw[h p (by simp)];simp)]
   rw[Xy,e];exact ZIU ps acc λq j=>h q (by simp[j])
variable {T:VS}
theorem ZJE(h:dn.any id=false):ZEG T dn=(T,List.replicate T.ls.length false):=by
 unfold ZEG;refine ZIU _ _ λp z=>?_;obtain⟨j,r⟩:=Ya z;rw[List.getElem?_zipIdx]at r;cases y:dn[j]? with
 | none=>rw[y]at r;cases r
 | some x=>
   rw[y]at r;simp only[WD,XT]at r;have:=YK.1 h x (Xn y);rw[<-r];simpa using this
theorem Zae(ls:List LS):ups ls<=ls.length:=Wj _ _
theorem ZVl(dn:List Bool)(j:Nat)(r:j<dn.length):(dn.take (j+1)).any id=((dn.take j).any id||dn[j]):=by rw[XH,Xa r,List.any_append];simp
theorem ZEV{p:Sl}(a:ZBg v S h l)(hg:g∈l)(r:Row ZCH g p os)(ok:VOk N A B S)(hN:N<=10000)(ho:∀ o∈os,ZCF o)(hA:A+os.length+80000<=1000000000){Q:PUnit->Hp->Prop}(hq:∀ T h',ZBg v T h' l->ZSh S os T->VOk N (A+os.length+80000) B T->T.ls.length=S.ls.length->Q ⟨⟩ h'):cx 65 [vp v.p,Value.slice p.a p.len p.cap] (ZV []) h Q:=by
 refine c65 ?_;have hn8:=ok.n;refine ZO6 a hg r ok.l ho (by omega) (by omega) λs1 d1 h1 a1 w1=>?_;have sf:=ZFK (os:=os) ok.l ho (by omega);unfold ZSh at hq;generalize ac:(⟨S.d,(ZBJ S.ls os).1⟩:VS)=I at*;have ok0:VOk N (A+os.length) B I:=by rw[<-ac];exact⟨ok.w,ok.f,sf.1,by dsimp only;rw[sf.2.1];exact hn8⟩
 have aj:I.ls.length=S.ls.length:=by rw[<-ac];exact sf.2.1
 have hd0:(ZBJ S.ls os).2.length=I.ls.length:=by rw[aj];exact sf.2.2.1
 generalize (ZBJ S.ls os).2=H at*;have hu0:=Zae I.ls;refine ZXM (λf z h'=>∃ (T:VS) (dn:List Bool) (d:Hp),f=2*ups T.ls+(if dn.any id=true then 1 else 0)+(if z.2=true then 1 else 0)/\ZBg v T h' (d::l)/\Own cB d z.1 dn/\dn.length=T.ls.length/\VOk N (A+os.length+4096*(18-f)) B T/\f<=18/\T.ls.length=S.ls.length/\
  (z.2=false->ZFA I H T)/\(z.2=true->∀ U,ZFA T dn U->ZFA I H U)) (2*ups I.ls+(if H.any id=true then 1 else 0)+1)
  ⟨I,H,d1,rfl,a1,w1,hd0,ok0.mono (Xc _) (VF _ _) (Xc _),by split<;>omega,aj,(λh=>by cases h),λ_ U hU=>hU⟩ ?_
 rintro J f ⟨sl,any⟩ h2 again ⟨T,dn,d,hf,a2,w2,hdl,ok2,hf18,hTl,hr0,hr1⟩
 dsimp only at hf w2 hr0 hr1⊢;have hvl:=a2.len;have hlen:=w2.1;refine ZD (λe=>?_) λe=>?_
 ·subst e;dsimp only[ZM,VK.p];refine ZK (cd:=cSl) (x:=v.sl) a2.ob (i:=1) rfl ?_;refine⟨by omega,by omega,by omega,by omega,?_⟩;refine a2.new λk1 h3 a3=>?_;have en:((v.sl.len:Int)).toNat=T.ls.length:=by omega
  rw[en]at a3⊢;have hzl:dn.zipIdx.length=dn.length:=List.length_zipIdx;have hA4:A+os.length+4096*(18-f)+4096<=1000000000:=by omega
  have rk:∀ j,j<=dn.length->_:=λj hj=>ZLN (B:=B) (dn.zipIdx.take j) (A:=A+os.length+4096*(18-f)) (acc:=(T,List.replicate T.ls.length false)) ok2 (by simp) (by rw[Xk];omega);refine Zc (λz h'=>∃ (j:Nat) (dk:Hp),z=((dn.take j).any id,(j:Int))/\j<=dn.length/\ZBg v ((dn.zipIdx.take j).foldl ZAj (T,List.replicate T.ls.length false)).1 h' (dk::d::l)/\Own cB dk ⟨sj k1,T.ls.length,T.ls.length⟩ ((dn.zipIdx.take j).foldl ZAj (T,List.replicate T.ls.length false)).2) (λz=>dn.length-z.2.toNat)
   ⟨0,_,rfl,Xh _,a3,ZXW⟩ ?_
  rintro J2 z h4 G ⟨j,dk,rfl,hj,a4,X⟩;dsimp only;have hr:=rk j hj;refine ZG (λhlt=>?_) λhge=>?_
  ·have V:j<dn.length:=by omega
   have a0:dn.zipIdx[j]?=some (dn[j],j):=by rw[List.getElem?_zipIdx,Xa V];simp
   have Z:=ZAB ZAj (T,List.replicate T.ls.length false) dn.zipIdx a0;have Y:=ZVl dn j V;rw[Z1 (by omega)];generalize hacc:(dn.zipIdx.take j).foldl ZAj (T,List.replicate T.ls.length false)=acc at*;obtain⟨U,un⟩:=acc;dsimp only at a4 X hr;obtain⟨E,W,M,_⟩:=hr;refine ZI (λt h'=>t=(dn.take (j+1)).any id/\∃ dk,ZBg v (ZAj (U,un) (dn[j],j)).1 h' (dk::d::l)/\Own cB dk ⟨sj k1,T.ls.length,T.ls.length⟩ (ZAj (U,un) (dn[j],j)).2) ?_ λJ3 F=>?_
   .rintro t h' ⟨rfl,dk5,a5,w5⟩;exact G _ _ ⟨j+1,dk5,rfl,by omega,by rw[Z];exact a5,by rw[Z];exact w5⟩ (by dsimp only;omega)
   .refine ZN w2.row (Xb j) (by omega) λq hq'=>ZQ w2.row (a4.sub (by simp)) rfl hq' (i:=j) (Xa V) (by rfl) ?_;unfold ZAj at F;dsimp only at F;refine ZD (λe=>?_) λe=>?_
    .have e:dn[j]=false:=by simpa using e
     rw[Xd (by rw[e];simp)]at F;exact F _ _ ⟨by rw[Y,e,Bool.or_false],dk,a4,X⟩
    .have e:dn[j]=true:=by simpa using e
     rw[Xe e]at F;refine ZK (cd:=Go.Eng.cP) (x:=v.k.p) a4.ob (i:=0) rfl ?_;obtain⟨R,b4,cl⟩:=a4.desk;refine Go.Proofs.YtkmniidiifpdgaaGreat.ZHp (who:=(j:Int)) b4 E.w hN λs5 d5 h5 b5 w5 _ hol=>?_;have hgw:=ZKn (who:=(j:Int)) E.w;have ah:=ZJc (who:=(j:Int)) E.w E.f;have a5:=cl h5 (d5::dk::d::l) (ZAV U.d (j:Int)).1 (b5.perm (Xt _ _ _));have ab:=E.l;have hsfx:=ZFK (os:=(ZAV U.d (j:Int)).2) ab ah.2 (by rw[Xk];omega);refine ZO6 (g:=d5) a5 (by simp) w5.row ab ah.2 (by rw[Xk];omega) (by dsimp only;omega) λs6 d6 h6 a6 w6=>?_;have w6:Own cB d6 s6 (ZBJ U.ls (ZAV U.d (j:Int)).2).2:=w6;have a7:ZBg v ⟨(ZAV U.d (j:Int)).1,(ZBJ U.ls (ZAV U.d (j:Int)).2).1⟩ h6 (d6::dk::d::l):=(a6.perm (((Xt _ _ _)).trans (WO _))).drop;refine ZWJ a7 X w6 (by rw[W,hsfx.2.2.1]) (by omega) λd8 h8 a8 w8=>?_;exact F _ _ ⟨by rw[Y,e,Vb],d8,a8,w8⟩
  ·have hje:j=dn.length:=by omega
   subst hje;rw[Xo];have O:dn.zipIdx.take dn.length=dn.zipIdx:=by rw[<-hzl,Xo]
   rw[O]at a4 X hr;have hrv:dn.zipIdx.foldl ZAj (T,List.replicate T.ls.length false)=ZEG T dn:=rfl;rw[hrv]at a4 X hr;obtain⟨E,W,M,ae,_⟩:=hr;rw[ZLg]at ae;dsimp only at M ae;have a5:ZBg v (ZEG T dn).1 h4 (dk::l):=(a4.perm (Xt _ _ _)).drop;have h8:=ok2.n;generalize y:2*ups (ZEG T dn).1.ls+(if (ZEG T dn).2.any id=true then 1 else 0)+(if dn.any id=true then 1 else 0)=f2
   have ZFh:f2<f:=by
    cases L:dn.any id with
    | false=>
      rw[L]at hf y;rw[ZJE L]at y;have er:(List.replicate T.ls.length false).any id=false:=by rw[YK];intro x hx;rw[Wp hx];simp
      dsimp only at y;rw[er]at y;simp at hf y;omega
    | true=>
      rw[L]at hf y;cases eb:(ZEG T dn).2.any id with
      | true=>
        have:=ZRk eb;rw[eb]at y;simp at hf y;omega
      | false=>
        rw[eb]at y;simp at hf y;omega
   refine again f2 _ _ ⟨(ZEG T dn).1,(ZEG T dn).2,dk,y.symm,a5,X,W,?_,?_,M.trans hTl,?_,?_⟩ ?_
   .refine E.mono (Xc _) ?_ (Xc _);rw[hzl,hdl];have hff:=ZFh;have h512:512*T.ls.length<=4096:=by omega
    have h6:4096*(18-f)+4096<=4096*(18-f2):=by rw[<-Nat.mul_succ];exact Vt _ (by omega)
    omega
   .omega
   .intro L;rw[ZJE L];exact hr1 rfl T (ZFA.done L)
   .exact λL U hU=>hr1 rfl U (ZFA.step L hU)
   .exact ZFh
 .have e:any=false:=e;subst e;exact hq T h2 a2.drop (hr0 rfl) (ok2.mono (Xc _) (by omega) (Xc _)) hTl
def ZUK(beat:Int):LS:=⟨[],0,ZZA beat.toNat,[]⟩
def ZKb(bs:List Bond)(ps:List Z8)(look beat:Int):VS:=⟨ZCj bs ps look beat,List.replicate ps.length (ZUK beat)⟩
variable {ps:List Z8}
theorem ZUn{look:Int}(h:ZDH bs ps look beat=true):VOk 0 0 0 (ZKb bs ps look beat):=by
 have y:=ZF1 h;have j:1<=beat/\beat<=1000:=by unfold ZDH inB at h;simp only[Xf,Xw]at h;omega
 refine⟨y,⟨λb j=>?_,(λq F=>by cases F),λa z=>by cases z⟩,λx r=>?_,?_⟩
 .have:=Wp j;subst this;exact λx r=>by cases r
 .have:=Wp r;subst this;exact⟨(λb j=>by cases j),Xc 1,(λf E=>by cases E),Xc 0,(by show 1<=beat.toNat/\beat.toNat<=1000;omega),Xc 0,Xc 0,Xh _,ZDq.nil⟩
 .show (List.replicate ps.length (ZUK beat)).length<=8;rw[XX];exact y.pl
theorem ZXc{look:Int}(o:On h l)(hb:gb∈l)(rb:Row Zs gb sb bs)(hp:gp∈l)(rp:Row Zu gp sp ps)(F:ZDH bs ps look beat=true)(hq:∀ v h',ZBg v (ZKb bs ps look beat) h' l->Q v.p h'):cx 24 [ZAK.enc ⟨sb,sp,look,beat⟩] Go.Eng.cP h Q:=by
 have hpl:ps.length<=8:=(ZF1 F).pl;have hbt:1<=beat/\beat<=1000:=by unfold ZDH inB at F;simp only[Xf,Xw]at F;omega
 have hlp:=rp.1;refine c24 (d:=⟨sb,sp,look,beat⟩) ?_;refine ZJF o hb rb hp rp F λk h1 a1=>?_;obtain⟨D,o1,wD⟩:=a1;refine ZU rfl ?_;refine ZH (vs:=ZBv ⟨0,k,⟨none,0,0⟩,[]⟩) o1 λG h2 o2=>?_;refine Zc (λz h'=>∃ (j:Nat) (y:Sl) (E:Hp) (ks:List (Option Addr)) (cs:List Hp),z=(j:Int)/\j<=ps.length/\ks.length=j/\On h' (ob G (ZBv ⟨G,k,y,[]⟩) 152::E::(cs++(D::l)))/\Own Go.Eng.cP E y ks/\ZKG ks (List.replicate j (ZUK beat)) cs) (λz=>ps.length-z.toNat)
  ⟨0,⟨none,0,0⟩,Hp.emp,[],[],rfl,Xh _,rfl,o2.emp.swap,Own.nil _,⟨rfl,rfl,λi p b c h=>by cases h⟩⟩ ?_
 rintro J z h3 r ⟨j,y,E,ks,cs,rfl,hj,L,O,wK,wb⟩
 refine ZG (λM=>?_) λH=>?_
 .have hj':j<ps.length:=by have:(j:Int)<(sp.len:Int):=M;omega
  refine ZL (cd:=cSl) (x:=y) O 0 (i:=1) rfl rfl ?_;refine ZV2 (n:=beat) O (λh=>by omega) λ_ _ W c4 h4 Y w4=>?_;refine⟨⟨Hp.sub_rds (Y.get (i:=1) rfl) (ZBI (i:=1) rfl),trivial⟩,?_⟩;refine ZH Y λX h5 Z=>?_;have V:=Z.pick [3,0,2,1] 4;refine ZW (cd:=Go.Eng.cP) (g:=ob X [vp W] 153) (s:=y) (t:=⟨sj X,1,1⟩) (ys:=[W]) V rfl wK (by decide) (Zk (by rfl) rfl) (Z.get (i:=0) rfl) ?_ λd6 p n m h6 o6 w6=>?_
  .rw [Xv];exact XG (Xr _ (show _<=100 by omega)) (by decide)
  .refine ZX (cd:=cSl) (i:=1) (x:=⟨p,n,m⟩) (vs':=ZBv ⟨G,k,⟨p,n,m⟩,[]⟩) (o6.pick [2,0,1,3] 4) rfl rfl (by show 1+1<=2;omega) λh7 o7=>?_;rw[Z1 (by omega)];refine r _ _ ⟨j+1,⟨p,n,m⟩,d6,ks++[W],cs++[c4],rfl,by omega,by simp[L],?_,w6,?_⟩ (by omega)
   .have o8:=o7.pick [0,1,3] 4;refine o8.perm (XQ _ (XQ _ ?_));show (c4::(cs++_)).Perm ((cs++[c4])++_);rw[Xu];exact Wg.symm
   .rw [VW];exact wb.push w4
 .have I:j=ps.length:=by have:¬(j:Int)<(sp.len:Int):=H;omega
  subst I;refine hq ⟨G,k,y,ks⟩ h3 ⟨E,D,ks,cs,O.perm (XQ _ (XQ _ ?_)),⟨wK,rfl⟩,wD,wb⟩;exact Wg
def Ids(P:Int->Prop)(l:List ZE):Prop:=∀ x∈l,P x.ID
variable {l:List ZE}
theorem Ids.drop(h:Ids P l)(id:Int):Ids P (ZAE l id):=λx j=>h x ((ZAG l id).subset j)
theorem Ids.less(h:Ids P l)(id left:Int):Ids P (ZC6 l id left).1:=by
 rcases ZD1 l id left with e|⟨i,o,r,_,_,_,e⟩
 .rw [e];exact h
 .rw [e];intro x j;rcases XK j with j|j
  .exact h x j
  .subst j;exact h o (Xn r)
theorem Ids.add(h:Ids P l)(r:P o.ID):Ids P (ZMZ l o).1:=by
 unfold ZMZ;split
 .exact h
 .split
  .exact h
  .intro x j;rcases Xx.1 j with j|j
   .exact h x j
   .simp only[Xl]at j;subst j;exact r
def ZRP(P:Int->Prop)(g:ZQv):Prop:=P g.ID/\1<=g.Left/\g.Left<=1000000
def ZYz(P:Int->Prop)(f:ZIo):Prop:=P f.Maker/\0<=f.Left/\f.Left<=1000000
def ZI7(P:Int->Prop)(c:ZCL):Prop:=Ids P c.l/\(∀ f∈c.fills,ZYz P f)/\(∀ g∈c.gone,ZRP P g)/\0<=c.o.Left/\c.o.Left<=1000000
theorem ZI7.meet{c:ZCL}{x:ZE}(h:ZI7 P c)(I:1<=x.Left/\x.Left<=1000000)(F:P x.ID):ZI7 P (Zo c x):=by
 obtain⟨y,z,E,G,H⟩:=h;have hl:=ZEj (c:=c) (x:=x) ⟨G,H⟩ (by omega);refine⟨?_,?_,?_,hl⟩
 ·unfold Zo;split
  .exact y
  .split
   .exact y.drop _
   .dsimp only;split
    .exact y.drop _
    .exact y.less _ _
 ·unfold Zo;split
  .exact z
  .split
   .exact z
   .intro f j;rcases Xx.1 j with j|j
    .exact z f j
    .simp only[Xl]at j;subst j;refine⟨F,?_⟩;unfold ZE4;dsimp only;omega
 ·unfold Zo;split
  .exact E
  .split
   .intro g r;rcases Xx.1 r with r|r
    .exact E g r
    .simp only[Xl]at r;subst r;exact⟨F,I⟩
   .exact E
theorem ZZO(h:Ids P l)(H:ZIv l)(G:0<=o.Left/\o.Left<=1000000):ZI7 P (ZAe l o how):=by
 have key:∀ (r:List ZE) (c:ZCL),(∀ y∈r,y∈l)->ZI7 P c->ZI7 P (r.foldl Zo c):=by
  intro r;induction r with
  | nil=>intro c _ z;exact z
  | cons x r I=>
    intro c j z;have E:=j x (by simp);exact I (Zo c x) (λy F=>j y (by simp[F])) (z.meet ⟨(H x E).1,(H x E).2.1⟩ (h x E))
 exact key _ _ (λy F=>ZCE F) ⟨h,by simp,by simp,G.1,G.2⟩
theorem Zck(h:Ids P l)(E:ZIv l)(z:P o.ID):
 Ids P (doV l o how).1/\(∀ f∈(doV l o how).2.1,ZYz P f)/\(∀ g∈(doV l o how).2.2.1,ZRP P g)/\0<=(doV l o how).2.2.2.1/\(doV l o how).2.2.2.1<=1000000:=by
 unfold doV;by_cases e:ZBw l o how≠0
 .rw [Xe e];exact⟨h,by simp,by simp,Yi 0,by show (0:Int)<=1000000;omega⟩
 ·rw[Xd e];have hl:=ZGb (WF.1 e);obtain⟨c1,c2,c3,c4,y⟩:=ZZO (how:=how) h E (o:=o) ⟨by omega,hl.2⟩;have r:(ZAe l o how).o.ID=o.ID:=by
   unfold ZAe;have key:∀ (j:List ZE) (c:ZCL),(j.foldl Zo c).o.ID=c.o.ID:=by
    intro j;induction j with
    | nil=>intro c;rfl
    | cons x j F=>intro c;rw[Xy,F,(ZEr c x).1]
   exact key _ _
  refine⟨?_,c2,c3,c4,y⟩;dsimp only;split
  .exact c1.add (by rw[r];exact z)
  .exact c1
structure COk (N:Nat) (c:DC):Prop where
 w:WOk N c.d
 f:FOk c.d
 o:∀ o∈c.outs,ZCF o
 i:I64 c.id
theorem Zy(j:0<=n)(r:n<=1000000):I64 n:=⟨by omega,by omega⟩
theorem ZFd(h:∀ o∈os,ZCF o){x:Out}(r:ZCF x):∀ o∈os++[x],ZCF o:=λo j=>(Xx.1 j).elim (h o) λe=>by simp only[Xl]at e;subst e;exact r
variable {c:DC}
theorem COk.tell(h:COk N c)(j:I64 kind)(r:∀ n∈ns,I64 n):COk N (ZCJ c to kind ns):=⟨h.w,h.f,ZFd h.o (ZEP j r),h.i⟩
theorem ZSw{who:Int}:∀ (r:List ZQv) (c:DC),(∀ g∈r,ZRP I64 g)->(∀ o∈c.outs,ZCF o)->∀ o∈(r.foldl (ZDB who) c).outs,ZCF o
 | [],c,_,h=>h
 | g::r,c,hg,h=>by
   rw[Xy];refine ZSw r (ZDB who c g) (λx z=>hg x (by simp[z])) ?_;have j:=hg g (by simp);refine ZFd h (ZEP ⟨by decide,by decide⟩ λn y=>?_);simp only[Xm,XW,Ye]at y;rcases y with rfl|rfl
   .exact j.1
   .exact Zy (by have:=j.2;omega) j.2.2
theorem ZTC{who n:Int}{o:ZE}(z:I64 who)(r:I64 n)(E:I64 o.ID):∀ (fs:List ZIo) (st:DC×Int),(∀ f∈fs,ZML f/\ZYz I64 f)->I64 st.1.d.now->st.1.d.trades.length+fs.length<=1000000->(∀ o∈st.1.outs,ZCF o)->∀ x∈(fs.foldl (ZCR who n o) st).1.outs,ZCF x
 | [],st,_,_,_,h=>h
 | f::fs,st,hf,hnow,hl,h=>by
   rw[XI]at hl;rw[Xy];have y:=hf f (by simp);obtain⟨⟨H,I,L,M,O,f6⟩,g1,g2,g3⟩:=y;have F:=ZDw (st.2-f.Qty);have G:ZCy (ZKi st.1.d.trades (ZBF st.1.d o.Side who f.MakerParty (ZNM n f))):=by
    unfold ZKi ZBF ZNM ZCy;dsimp only;refine⟨Zy (by omega) (by omega),r,?_,?_,Zy (by omega) (by omega),Zy (by omega) (by omega),Zy (by omega) (by omega),hnow⟩
    .split
     .exact Zy (by omega) (by omega)
     .exact z
    .split
     .exact z
     .exact Zy (by omega) (by omega)
   refine ZTC z r E fs (ZCR who n o st f) (λx j=>hf x (by simp[j])) hnow ?_ ?_
   .show (st.1.d.trades++[_]).length+fs.length<=1000000;rw[Xg,Xv];omega
   ·intro x j;have j:x∈((st.1.outs++[ZHL f.MakerParty 20 [f.Maker,f.Price,f.Qty,f.Left]])++[ZHL who 20 [o.ID,f.Price,f.Qty,i64.wrap (st.2-f.Qty)]])++ZIs (ZKi st.1.d.trades (ZBF st.1.d o.Side who f.MakerParty (ZNM n f))):=j;rcases Xx.1 j with j|j
    .refine ZFd (ZFd h (ZEP ⟨by decide,by decide⟩ λn r=>?_)) (ZEP ⟨by decide,by decide⟩ λn r=>?_) x j
     .simp only[Xm,XW,Ye]at r;rcases r with rfl|rfl|rfl|rfl
      .exact g1
      .exact Zy (by omega) (by omega)
      .exact Zy (by omega) (by omega)
      .exact Zy (by omega) (by omega)
     .simp only[Xm,XW,Ye]at r;rcases r with rfl|rfl|rfl|rfl
      .exact E
      .exact Zy (by omega) (by omega)
      .exact Zy (by omega) (by omega)
      .exact F
    .exact ZO9 G x j
theorem COk.meets(h:COk N c)(hN:N<=9000)(j:0<=n/\n<c.d.books.length)(hw:0<=who/\who<8)(X:0<=o.Owner/\o.Owner<8)(O:I64 o.ID):COk (N+1) (ZAJ c who n o how).1:=by
 have z:=ZCV h.w j;have I:=ZBC j;have L:Ids I64 (Zj c.d n):=λx hx=>h.f.bo (Zj c.d n) (by rw[I];exact Xs _) x hx;have y:=Zck (o:=ZGi c o) (how:=how) L z.2.1 O;have E:=ZOa (o:=ZGi c o) (how:=how) z rfl X;obtain⟨Y,Z,e3⟩:=ZDC c who n o how;have hl4:=h.w.l4;have hbl:=h.w.bl4;refine⟨h.w.meets j X,?_,?_,by rw[Z];exact h.i⟩
 .rw [Y];exact {h.f with bo:=λb hb=>(XK hb).elim (h.f.bo b) λe=>by subst e;exact y.1}
 ·unfold ZAJ;have M:=E.2.2.1;have F:=E.2.1;generalize doV (Zj c.d n) (ZGi c o) how=r at y M F;by_cases V:r.2.2.2.2≠0
  .rw [Xe V];exact h.o
  .rw [Xd V];have hg:=ZSw (who:=who) r.2.2.1 (ZKR c n r.1) y.2.2.1 h.o;have H:=(ZIP who r.2.2.1 (ZKR c n r.1)).1;have G:=ZTC (who:=who) (n:=n) (o:=o) (Zy (by omega) (by omega)) (Zy (by omega) (by omega)) O r.2.1 (r.2.2.1.foldl (ZDB who) (ZKR c n r.1),o.Left) (λf W=>⟨F f W,y.2.1 f W⟩) (by dsimp only;rw[H];exact h.w.now) (by dsimp only;rw[H];show c.d.trades.length+_<=_;omega) hg;dsimp only;split
   .refine ZFd G (ZEP ⟨by decide,by decide⟩ λn j=>?_);simp only[Xm,XW,Ye]at j;rcases j with rfl|rfl
    .exact O
    .exact Zy y.2.2.2.1 y.2.2.2.2
   .exact G
def ZFL(m:Msg):Prop:=I64 m.Kind/\I64 m.F_0/\I64 m.F_1/\I64 m.F_2/\I64 m.F_3/\I64 m.F_4/\I64 m.F_5
theorem COk.mono(h:COk N c)(j:N<=N'):COk N' c:=⟨h.w.mono j,h.f,h.o,h.i⟩
theorem COk.id(h:COk N c){id:Int}(j:I64 id):COk N {c with id:=id}:=⟨h.w,h.f,h.o,j⟩
theorem COk.book(h:COk N c){x:List ZE}(y:ZAu c.d.seq x)(r:Ids I64 x):COk N {c with d:=ZAb c.d n x}:=
 ⟨h.w.book y,{h.f with bo:=λb j=>(XK j).elim (h.f.bo b) λe=>by subst e;exact r},h.o,h.i⟩
theorem ZVP(h:COk N c)(j:0<=n/\n<c.d.books.length):Ids I64 (Zj c.d n):=λx r=>h.f.bo (Zj c.d n) (by rw[ZBC j];exact Xs _) x r
theorem ZYK(h:COk N c)(E:N<=9000)(z:0<=who/\who<8):COk (N+1) (ZCt c who m).1:=by
 have h':=h.mono (Ws N);have F:=h.w.c1;unfold ZCt;split
 .exact h'
 rename_i y;have y:isBond c.d m.F_0=true:=by simpa using y
 split
 .exact h'
 split
 .exact h'
 have j:=h.meets E (who:=who) (n:=m.F_0) (how:=m.F_4) (o:=ZAh c who m) (ZBo.1 y) z z (Zy (by show 0<=c.d.order+1;omega) (by show c.d.order+1<=_;omega));have G:=(ZDC c who m.F_0 (ZAh c who m) m.F_4).1;generalize ZAJ c who m.F_0 (ZAh c who m) m.F_4=r at*;have H:r.1.d.order=c.d.order:=by rw[G]
 split
 .refine ⟨{j.w with c1:=by show 0<=r.1.d.order+1/\r.1.d.order+1<=((N+1:Nat):Int);omega},{j.f with},j.o,?_⟩;show I64 (r.1.d.order+1);exact Zy (by omega) (by omega)
 .exact j
theorem ZWM(h:COk N c)(I:N<=9000)(M:0<=who/\who<8)(E:ZFL m):COk (N+1) (ZAw c who m).1:=by
 have h':=h.mono (Ws N);unfold ZAw;split
 .exact ZYK h I M
 cases W:ZAT c.d m.F_0 with
 | none=>exact h'
 | some n=>
   dsimp only;obtain⟨Y,x,Z,F,X,V⟩:=ZDu W;have y:0<=((n:Nat):Int)/\((n:Nat):Int)<c.d.books.length:=⟨Xb _,by omega⟩
   have r:=ZCV h.w y;have j:=ZVP h y;have z:x∈Zj c.d ((n:Nat):Int):=by rw[ZBC y];exact F
   have H:=r.2.1 x z;have G:=r.2.2.2 x z;rw[V];dsimp only;split
   .exact h'
   split
   .unfold ZCN;dsimp only;split
    .exact h'.id E.2.1
    split
    .exact (h'.id E.2.1).book (r.less _ _) (j.less _ _)
    .have O:COk N {c with id:=m.F_0,d:=ZAb c.d (n:Int) (ZAE (Zj c.d (n:Int)) x.ID)}:=(h.id E.2.1).book (c:={c with id:=m.F_0}) (r.sub (ZAG _ _)) (j.drop _);exact O.meets I (o:=ZA0 x m.F_1 m.F_2) (by show 0<=_/\_<((List.set _ _ _).length:Int);rw[Xp];exact y) M G.2 (j x z)
   .unfold ZTR;refine((h'.id E.2.1).book (c:={c with id:=m.F_0}) (n:=(n:Int)) (r.sub (ZAG _ m.F_0)) (j.drop _)).tell ⟨by decide,by decide⟩ λk L=>?_;simp only[Xm,XW,Ye]at L;rcases L with rfl|rfl
    .exact E.2.1
    .exact Zy (by omega) H.2.1
theorem ZbB(h:COk N c)(z:I64 n):COk N (ZFz c n is).1:=by
 unfold ZFz;split
 .exact h
 rename_i r;have r:isBond c.d n=true:=by simpa using r
 split
 .exact h
 obtain⟨y,_⟩:=ZBB r h.w.bl;refine⟨{h.w with bonds:=λb j=>?_,bl:=by show c.d.books.length=(List.set _ _ _).length;rw[Xp];exact h.w.bl},{h.f with},h.o,z⟩;rcases XK j with j|j
 .exact h.w.bonds b j
 .subst j;exact(show _ from h.w.bonds (ZAL c.d n) y)
def ZUe(a:Ask):Prop:=I64 a.Side/\I64 a.Ends/\I64 a.Hit
theorem ZZW{id:Int}(h:∀ a∈xs,ZUe a)(y:∀ a,ZUe a->ZUe (f a)):∀ a∈upd Ask.ID id f xs,ZUe a:=λa r=>by
 obtain⟨x,j,rfl|⟨_,rfl⟩⟩:=ZH9 r
 .exact h a j
 .exact y x (h x j)
theorem ZGG:I64 0:=⟨by decide,by decide⟩
theorem ZW6{id st:Int}(h:∀ a∈xs,ZUe a):∀ a∈(ZRe xs id st).1,ZUe a:=by
 rcases ZGg xs id st with e|e<;>rw[e]
 .exact h
 .exact ZZW h λa j=>⟨j.1,j.2.1,by unfold ZXh;dsimp only;split;exact ZGG;exact j.2.2⟩
theorem ZYt{id:Int}(h:∀ a∈xs,ZUe a):∀ a∈(ZG3 xs id).1,ZUe a:=by
 rcases ZFP xs id with e|e<;>rw[e]
 .exact h
 .exact ZZW h λa j=>⟨j.1,j.2.1,ZGG⟩
theorem ZX4{id q:Int}(h:∀ a∈xs,ZUe a)(r:I64 q):∀ a∈(ZD2 xs id q u).1,ZUe a:=by
 rcases ZHl xs id q u with e|e<;>rw[e]
 .exact h
 .exact ZZW h λa j=>⟨j.1,j.2.1,r⟩
theorem ZRH{xs:List Za}{id:Int}(h:∀ q∈xs,I64 q.ID/\I64 q.Expires):∀ q∈ZJI xs id,I64 q.ID/\I64 q.Expires:=λq j=>h q (Wk.1 j).1
theorem Zbb{a b:Int}(r:P a)(y:P b):∀ n∈[a,b],P n:=λn j=>by
 simp only[Xm,XW,Ye]at j;rcases j with rfl|rfl
 .exact r
 .exact y
theorem Zcl{a:Int}(r:P a):∀ n∈[a],P n:=λn j=>by simp only[Xm,XW,Ye]at j;subst j;exact r
theorem ZcX{a b c:Int}(r:P a)(y:P b)(z:P c):∀ n∈[a,b,c],P n:=λn j=>by
 simp only[Xm,XW,Ye]at j;rcases j with rfl|rfl|rfl
 .exact r
 .exact y
 .exact z
theorem ZRJ(h:COk N c)(x:Ask)(r:I64 x.ID):COk N (ZJy c x):=by
 have j:COk N (ZW1 c x.ID 4):=⟨(h.w.end x.ID 4).clear x.ID,{h.f with qo:=ZRH h.f.qo,ao:=ZW6 h.f.ao},h.o,h.i⟩
 exact j.tell ⟨by decide,by decide⟩ (Zcl r)
theorem ZJG(h:COk N c)(x:Ask)(r:I64 x.ID)(z:I64 x.Hit):COk N (ZAQ c x):=by
 have j:COk N (ZGa c x.Hit):=⟨h.w.kill x.Hit,{h.f with qo:=ZJz h.f.qo},h.o,h.i⟩
 unfold ZAQ;split
 .exact ZRJ j x r
 .have y:COk N {ZGa c x.Hit with d:={(ZGa c x.Hit).d with asks:=(ZG3 c.d.asks x.ID).1}}:=⟨j.w.back x.ID,{j.f with ao:=ZYt h.f.ao},h.o,h.i⟩
  exact y.tell ⟨by decide,by decide⟩ (Zbb r z)
variable {S:DS}
theorem ZJW(i:WOk N S)(z:N<=9000)(j:a∈S.asks):I64 a.ID/\I64 a.Bond/\I64 a.Qty/\I64 a.Client:=by have:=i.ai a j;have y:=i.c4;have r:=i.bl4;exact⟨Zy (by omega) (by omega),Zy (by omega) (by omega),Zy (by omega) (by omega),Zy (by omega) (by omega)⟩
theorem ZaT(h:COk N c)(j:N<=9000){id:Int}(r:I64 id):COk N (ZGh c who id).1:=by
 unfold ZGh;split
 .rename_i e;obtain⟨y,_⟩:=ZEd e;exact ZRJ (h.id r) _ (ZJW h.w j y).1
 .exact h
theorem ZaF(h:COk N c){id:Int}(j:I64 id):COk N (ZIM c who id).1:=by
 unfold ZIM;cases r:getQ c.d.quotes id with
 | none=>exact h
 | some q=>
   dsimp only;split
   .exact h
   split
   .exact h
   .have e:(ZIw c.d.quotes id who).1=c.d.quotes\/(ZIw c.d.quotes id who).1=killQ c.d.quotes id:=by
     unfold ZIw;rw[r];dsimp only;split
     .exact .inl rfl
     split
     .exact .inl rfl
     .exact .inr rfl
    rcases e with e|e<;>rw[e]
    .exact h.id j
    .exact ⟨h.w.kill id,{h.f with qo:=ZJz h.f.qo},h.o,j⟩
theorem ZbH(h:COk N c)(j:I64 a.ID)(r:I64 q.ID):COk (N+1) (ZMV c a q).1:=by
 have h':=h.mono (Ws N);unfold ZMV;split
 .exact h'
 split
 .exact h'
 split
 .exact h'
 split
 .exact h'
 .have y:COk (N+1) {c with d:={c.d with asks:=(ZD2 c.d.asks a.ID q.ID (ZES c.d)).1,due:=c.d.due+1},id:=a.ID}:=⟨(h.w.look a.ID q.ID (ZES c.d)).due1,{h.f with ao:=ZX4 h.f.ao r},h.o,j⟩
  exact y.tell ⟨by decide,by decide⟩ (ZcX j r (ZDw _))
theorem ZaJ(h:COk N c)(y:N<=9000):COk (N+1) (ZGK c who m).1:=by
 have h':=h.mono (Ws N);unfold ZGK;split
 ·cases E:getQ c.d.quotes m.F_0 with
  | none=>exact h'
  | some q=>
    dsimp only;split
    .exact h'
    .rename_i e;obtain⟨r,_⟩:=ZEd (WF.1 e);exact ZbH h (ZJW h.w y r).1 (h.f.qo q (ZKL E).1).1
 .split
  .exact h'
  .rename_i e;obtain⟨r,_⟩:=ZEd (WF.1 e);split
   .exact h'
   .rename_i z;have j:=ZN5 (s:=(ZB5 c.d who m.F_0).1.Side) (qs:=c.d.quotes.filter (ZPt (ZB5 c.d who m.F_0).1.ID c.d.now)) (by simpa using z);exact ZbH h (ZJW h.w y r).1 (h.f.qo _ (Wk.1 j).1).1
theorem ZVR(h:COk N c)(Z:N<=9000)(hw:0<=who/\who<8)(V:ZFL m):COk (N+1) (ZCM c who m).1:=by
 have h':=h.mono (Ws N);have ab:=h.w.c3;unfold ZCM;split
 .exact (ZaF h V.2.1).mono (Ws N)
 cases hg:getA c.d.asks m.F_0 with
 | none=>exact h'
 | some a=>
   dsimp only;obtain⟨H,_⟩:=ZDk hg;have O:=ZJW h.w Z H;split
   .exact h'
   split
   .exact h'
   split
   .exact h'
   split
   .exact h'
   rename_i I;split
   .exact h'
   split
   .exact h'
   rename_i F;have F:(ZJH c.d.quotes (ZAF c who a m)).2=0:=WF.1 F;have G:I64 (c.d.quote+1):=Zy (by omega) (by omega);have L:1<=m.F_1/\m.F_1<=1000000:=by
    have hb:=h.w.bonds _ (ZBB (ZFt h.w H).1 h.w.bl).1;have I:ZCv (ZAL c.d a.Bond) m.F_1=0:=WF.1 I;unfold ZCv at I;split at I
    .omega
    .cases I
   have r:(ZJH c.d.quotes (ZAF c who a m)).1=c.d.quotes.map (ZHJ (ZAF c who a m))++[ZAF c who a m]:=by
    unfold ZJH at F⊢;split
    .rename_i e;rw[Xe e]at F;cases F
    .rfl
   have j:∀ x:Za,(ZHJ (ZAF c who a m) x).ID=x.ID/\(ZHJ (ZAF c who a m) x).Price=x.Price/\(ZHJ (ZAF c who a m) x).Dealer=x.Dealer/\(ZHJ (ZAF c who a m) x).Expires=x.Expires:=λx=>by unfold ZHJ;split<;>exact⟨rfl,rfl,rfl,rfl⟩
   have hl1:=h.w.l1;have hl3:=h.w.l3;have Y:COk (N+1) (ZQ1 c (ZAF c who a m)):=by
    refine⟨{h'.w with
     qs:=?_,qi:=?_,c3:=?_,l1:=?_,l3:=?_},{h.f with qo:=?_},h.o,G⟩
    .show Srt Za.ID (ZJH c.d.quotes (ZAF c who a m)).1;rw[r];unfold Srt;rw[YI];refine⟨?_,VG _ _,λx hx y X=>?_⟩
     .rw [List.pairwise_map];exact List.Pairwise.imp (λ{x y} hxy=>by rw[(j x).1,(j y).1];exact hxy) h.w.qs
     .obtain ⟨z,M,rfl⟩:=Wa.1 hx;simp only[Xl]at X;subst X;rw[(j z).1];have:=(h.w.qi z M).1;show z.ID<c.d.quote+1;omega
    .intro q E;have E:q∈(ZJH c.d.quotes (ZAF c who a m)).1:=E;rw[r]at E;show q.ID<=c.d.quote+1/\_;rcases Xx.1 E with E|E
     .obtain ⟨z,M,rfl⟩:=Wa.1 E;rw[(j z).1,(j z).2.1,(j z).2.2.1];have:=h.w.qi z M;omega
     .simp only[Xl]at E;subst E;exact⟨Yi _,L.1,L.2,hw⟩
    .show 0<=c.d.quote+1/\c.d.quote+1<=((N+1:Nat):Int);omega
    .show (ZJH c.d.quotes (ZAF c who a m)).1.length<=N+1;rw[r,Xg,We,Xv];omega
    .show c.d.due+1<=2*(N+1);omega
    .intro q E;have E:q∈(ZJH c.d.quotes (ZAF c who a m)).1:=E;rw[r]at E;rcases Xx.1 E with E|E
     .obtain ⟨z,M,rfl⟩:=Wa.1 E;rw[(j z).1,(j z).2.2.2];exact h.f.qo z M
     .simp only[Xl]at E;subst E;exact⟨G,ZDw _⟩
   refine Y.tell ⟨by decide,by decide⟩ λn W=>?_;simp only[Xm,XW,Ye]at W;rcases W with rfl|rfl|rfl|rfl
   .exact O.1
   .exact G
   .exact V.2.2.1
   .exact ZDw _
theorem ZTE{N:Nat}(a:Ask)(j:∀ n∈[a.ID,a.Bond,a.Side,a.Qty,a.Ends],I64 n):∀ (is:List Nat) (c:DC),COk N c->COk N (is.foldl (ZB6 a) c)
 | [],c,h=>h
 | i::is,c,h=>by
   rw[Xy];refine ZTE a j is _ ?_;unfold ZB6;split
   .exact h.tell ⟨by decide,by decide⟩ j
   .exact h
theorem ZTU(h:COk N c)(hN:N<=9000)(hw:0<=who/\who<8)(L:ZFL m):COk (N+1) (ZBS c who m).1:=by
 have h':=h.mono (Ws N);have Y:=h.w.c4;unfold ZBS;split
 .exact h'
 rename_i I;have I:isBond c.d m.F_0=true:=by simpa using I
 split
 .exact h'
 split
 .exact h'
 split
 .exact h'
 rename_i E;split
 .exact h'
 split
 .exact h'
 split
 .exact h'
 rename_i j;have j:(ZJQ c.d.asks (Z6 c who m)).2=0:=WF.1 j;have r:(ZJQ c.d.asks (Z6 c who m)).1=c.d.asks++[Z6 c who m]:=by
  unfold ZJQ at j⊢;split
  .rename_i e;rw[Xe e]at j;cases j
  .rename_i e;rw[Xd e]at j;split
   .rename_i V;rw[Xe V]at j;cases j
   .rfl
 have H:1<=m.F_2/\m.F_2<=1000000:=by
  have X:=h.w.bonds _ (ZBB I h.w.bl).1;have E:ZPl (ZAL c.d m.F_0) m.F_2=0:=WF.1 E;unfold ZPl at E;split at E
  .omega
  .cases E
 have F:I64 (c.d.ask+1):=Zy (by omega) (by omega);have G:=ZBo.1 I;have Z:=h.w.l2;have ab:=h.w.l3;have W:COk (N+1) (ZN3 c (Z6 c who m)):=by
  refine⟨{h'.w with
   sa:=?_,ai:=?_,c4:=?_,l2:=?_,l3:=?_},{h.f with ao:=?_},h.o,F⟩
  .show Srt Ask.ID (ZJQ c.d.asks (Z6 c who m)).1;rw[r];unfold Srt;rw[YI];refine⟨h.w.sa,VG _ _,λx hx y O=>?_⟩;simp only[Xl]at O;subst O;have:=(h.w.ai x hx).1;show x.ID<c.d.ask+1;omega
  .intro q z;have z:q∈(ZJQ c.d.asks (Z6 c who m)).1:=z;rw[r]at z;show q.ID<=c.d.ask+1/\_;rcases Xx.1 z with z|z
   .have:=h.w.ai q z;exact⟨by omega,this.2⟩
   .simp only[Xl]at z;subst z;exact⟨Yi _,(by show 1<=c.d.ask+1;omega),G.1,G.2,H.1,H.2,hw⟩
  .show 0<=c.d.ask+1/\c.d.ask+1<=((N+1:Nat):Int);omega
  .show (ZJQ c.d.asks (Z6 c who m)).1.length<=N+1;rw[r,Xg,Xv];omega
  .show c.d.due+1<=2*(N+1);omega
  .intro q z;have z:q∈(ZJQ c.d.asks (Z6 c who m)).1:=z;rw[r]at z;rcases Xx.1 z with z|z
   .exact h.f.ao q z
   .simp only[Xl]at z;subst z;exact⟨L.2.2.1,ZDw _,ZGG⟩
 refine ZTE _ (λn M=>?_) _ _ W;simp only[Xm,XW,Ye]at M;rcases M with rfl|rfl|rfl|rfl|rfl
 .exact F
 .exact L.2.1
 .exact L.2.2.1
 .exact L.2.2.2.1
 .exact ZDw _
theorem ZYF(h:COk N c)(H:N<=9000):COk (N+1) (ZDg c who m).1:=by
 have h':=h.mono (Ws N);unfold ZDg;cases I:getA c.d.asks m.F_0 with
 | none=>exact h'
 | some a=>
   dsimp only;have r:=(ZDk I).1;have j:=ZJW h.w H r;have F:=h.f.ao a r;split
   .exact h'
   split
   .exact h'
   split
   .exact (ZJG (h.id j.1) a j.1 F.2.2).mono (Ws N)
   split
   .exact h'.id j.1
   split
   .exact h'.id j.1
   ·have L:=ZNw h.w a;have E:(ZCD c.d a).Price<=1000000/\0<=(ZCD c.d a).Price/\0<=(ZCD c.d a).Dealer/\(ZCD c.d a).Dealer<8:=by
     rcases L with e|e
     .rw [e];exact⟨by decide,by decide,by decide,by decide⟩
     .have:=h.w.qi _ e;omega
    generalize ZCD c.d a=q at*;have G:COk N (ZW1 {c with d:={c.d with used:=(ZL4 c.d.parties c.d.used q.Dealer q.Price a.Qty).1},id:=a.ID} a.ID 3):=
     ⟨((h.w.used (ZL4 c.d.parties c.d.used q.Dealer q.Price a.Qty).1).end a.ID 3).clear a.ID,{h.f with qo:=ZRH h.f.qo,ao:=ZW6 h.f.ao},h.o,j.1⟩
    have z:=G.tell (to:=a.Client) (kind:=26) (ns:=[a.ID,q.Price]) ⟨by decide,by decide⟩ (Zbb j.1 (Zy E.2.1 E.1));have M:=h.w.l4;have O:ZCy (ZKi c.d.trades (ZBF c.d a.Side a.Client q.Dealer ⟨0,a.Bond,0,0,q.Price,a.Qty,a.ID,0⟩)):=by
     unfold ZKi ZBF ZCy;dsimp only;refine⟨Zy (by omega) (by omega),j.2.1,?_,?_,Zy E.2.1 E.1,j.2.2.1,j.1,h.w.now⟩
     .split
      .exact Zy (by omega) (by omega)
      .exact j.2.2.2
     .split
      .exact j.2.2.2
      .exact Zy (by omega) (by omega)
    refine⟨z.w.trade1 _,{z.f with},λo y=>?_,z.i⟩;rcases Xx.1 y with y|y
    .exact z.o o y
    .exact ZO9 O o y
theorem Zaf(h:COk N c)(j:N<=9000)(r:ZFL m):COk (N+1) (ZBZ c who m).1:=by
 have h':=h.mono (Ws N);unfold ZBZ;split
 .exact h'
 rename_i e;have y:=ZMo h.w (by simpa using e);split
 .exact ZWM h j y r
 split
 .exact ZVR h j y r
 split
 .exact ZaJ h j
 split
 .exact ZYF h j
 split
 .exact (ZaT h j r.2.1).mono (Ws N)
 split
 .exact ZTU h j y r
 .exact (ZbB h r.2.1).mono (Ws N)
theorem ZRA(j:(ZG5 c n o how).2.1.length<=64)(y:(ZG5 c n o how).2.2.1.length<=64):(ZAJ c who n o how).1.outs.length<=c.outs.length+321:=by
 unfold ZAJ;unfold ZG5 at j y;generalize doV (Zj c.d n) (ZGi c o) how=r at j y;by_cases z:r.2.2.2.2≠0
 .rw [Xe z];show c.outs.length<=_;omega
 .rw [Xd z];have G:=(ZFy who r.2.2.1 (ZKR c n r.1)).1;have F:=(ZF4 (who:=who) n o r.2.1 (r.2.2.1.foldl (ZDB who) (ZKR c n r.1),o.Left)).1;have E:(ZKR c n r.1).outs=c.outs:=rfl;rw[E]at G;dsimp only at F;generalize r.2.1.foldl (ZCR who n o) (r.2.2.1.foldl (ZDB who) (ZKR c n r.1),o.Left)=st at*;dsimp only;split
  .show (st.1.outs++[_]).length<=_;rw[Xg,Xv];omega
  .omega
theorem ZJT(i:WOk N c.d)(r:0<=n/\n<c.d.books.length)(y:0<=o.Owner/\o.Owner<8):(ZAJ c who n o how).1.outs.length<=c.outs.length+321:=by have j:=ZOa (o:=ZGi c o) (how:=how) (ZCV i r) rfl y;exact ZRA j.2.2.1 j.2.2.2.1
theorem Za1(w:WOk N S)(f:FOk S):COk N (ZBU S):=⟨w,f,(λo j=>by cases j),ZGG⟩
theorem ZPQ(h:WOk N c.d)(I:0<=who/\who<8):(ZAw c who m).1.outs.length<=c.outs.length+321:=by
 unfold ZAw;split
 .unfold ZCt;split
  .show c.outs.length<=_;omega
  rename_i y;have y:isBond c.d m.F_0=true:=by simpa using y
  split
  .show c.outs.length<=_;omega
  split
  .show c.outs.length<=_;omega
  have:=ZJT h (who:=who) (n:=m.F_0) (how:=m.F_4) (o:=ZAh c who m) (ZBo.1 y) I;split
  .exact this
  .exact this
 cases H:ZAT c.d m.F_0 with
 | none=>show c.outs.length<=_;omega
 | some n=>
   dsimp only;obtain⟨M,x,O,E,L,G⟩:=ZDu H;have j:0<=((n:Nat):Int)/\((n:Nat):Int)<c.d.books.length:=⟨Xb _,by omega⟩
   have r:=ZCV h j;have z:x∈Zj c.d ((n:Nat):Int):=by rw[ZBC j];exact E
   have F:=r.2.2.2 x z;rw[G];dsimp only;split
   .show c.outs.length<=_;omega
   split
   .unfold ZCN;dsimp only;split
    .show c.outs.length<=_;omega
    split
    .show c.outs.length<=_;omega
    .exact ZJT (c:={c with id:=m.F_0,d:=ZAb c.d (n:Int) (ZAE (Zj c.d (n:Int)) x.ID)}) (h.book (r.sub (ZAG _ _))) (o:=ZA0 x m.F_1 m.F_2) (by show 0<=_/\_<((List.set _ _ _).length:Int);rw[Xp];exact j) F.2
   .show (c.outs++[_]).length<=_;rw[Xg,Xv];omega
theorem ZKe(h:WOk N c.d):(ZBZ c who m).1.outs.length<=c.outs.length+321:=by
 have z:c.outs.length<=c.outs.length+321:=VF _ _;have j:∀ (x:Out),(c.outs++[x]).length<=c.outs.length+321:=λx=>by rw[Xg,Xv];omega
 unfold ZBZ;split
 .exact z
 rename_i e;have y:=ZMo h (by simpa using e);split
 .exact ZPQ h y
 split
 ·unfold ZCM;split
  .unfold ZIM;split
   .exact z
   .split
    .exact z
    .split<;>exact z
  .split
   .exact z
   .split
    .exact z
    split
    .exact z
    split
    .exact z
    split
    .exact z
    split
    .exact z
    split
    .exact z
    .exact j _
 split
 .unfold ZGK ZMV;(repeat' split)<;>first|exact z|exact j _
 split
 ·unfold ZDg ZAQ;split
  .exact z
  .dsimp only;split
   .exact z
   split
   .exact z
   split
   .split
    .exact j _
    .exact j _
   split
   .exact z
   split
   .exact z
   .show ((c.outs++[_])++ZIs _).length<=_;simp[ZIs]
 split
 .unfold ZGh;split
  .exact j _
  .exact z
 split
 .unfold ZBS;split
  .exact z
  split
  .exact z
  split
  .exact z
  split
  .exact z
  split
  .exact z
  split
  .exact z
  split
  .exact z
  .have:=(ZEq (Z6 c who m) (List.range c.d.parties.length) (ZN3 c (Z6 c who m))).2.2;rw[List.length_range]at this;have r:(ZN3 c (Z6 c who m)).outs=c.outs:=rfl;rw[r]at this;have:=h.pl;dsimp only;omega
 .unfold ZFz;(repeat' split)<;>exact z
def Err(e:Int):Prop:=0<=e/\e<=20
theorem ZT5(b:Bond)(p:Int):Err (ZCv b p):=by unfold ZCv Err;split<;>(try split)<;>omega
theorem ZXn(b:Bond)(p:Int):Err (ZPl b p):=by unfold ZPl Err;split<;>(try split)<;>omega
theorem ZTj(b:Bond)(p q:Int):Err (ZD9 b p q):=by
 unfold ZD9;split
 .unfold Err;omega
 split
 .exact ZT5 b p
 .exact ZXn b q
theorem ZbS(b:Bond)(h p q:Int):Err (ZHZ b h p q):=by
 unfold ZHZ;split
 .exact ZTj b p q
 split
 .unfold Err;omega
 split
 .unfold Err;omega
 .exact ZXn b q
theorem ZYW(l:List ZE)(o:ZE)(how:Int):Err (ZBw l o how):=by unfold ZBw Err;(repeat' split)<;>omega
theorem Zb2(l:List ZE)(o:ZE)(how:Int):Err (doV l o how).2.2.2.2:=by
 unfold doV;split
 .exact ZYW l o how
 .exact ⟨Yi 0,by show (0:Int)<=20;omega⟩
theorem Zay(l:List ZE)(id left:Int):Err (ZC6 l id left).2:=by unfold ZC6;(repeat' split)<;>(unfold Err;omega)
theorem ZbL(l:List ZE)(s p q:Int):Err (ZLW l s p q):=by unfold ZLW Err;(repeat' split)<;>omega
theorem ZaD(xs:List Ask)(a:Ask):Err (ZJQ xs a).2:=by unfold ZJQ;(repeat' split)<;>(unfold Err;omega)
theorem Zaw(xs:List Za)(q:Za):Err (ZJH xs q).2:=by unfold ZJH;(repeat' split)<;>(unfold Err;omega)
theorem ZYC(xs:List Za)(i d:Int):Err (ZIw xs i d).2:=by unfold ZIw;(repeat' split)<;>(unfold Err;omega)
theorem ZYU(xs:List Ask)(i q u:Int):Err (ZD2 xs i q u).2:=by unfold ZD2;(repeat' split)<;>(unfold Err;omega)
theorem ZXs(ps:List Z8)(w d:Int):Err (ZJd ps w d):=by unfold ZJd;(repeat' split)<;>(unfold Err;omega)
theorem ZXS(ps:List Z8)(us:List Int)(w p q:Int):Err (ZE1 ps us w p q).2:=by unfold ZE1;(repeat' split)<;>(unfold Err;omega)
theorem ZcB(ps:List Z8)(us:List Int)(w p q:Int):Err (ZL4 ps us w p q).2:=by
 unfold ZL4;split
 .unfold Err;omega
 .exact ZXS ps us w p q
theorem ZXA(S:DS)(w i:Int):Err (ZB5 S w i).2:=by unfold ZB5;(repeat' split)<;>(unfold Err;omega)
theorem ZL9(S:DS)(a:Ask)(q:Za):Err (ZCQ S a q):=by
 unfold ZCQ;split
 .unfold Err;omega
 .exact ZbL _ _ _ _
theorem Zb9(c:DC)(a:Ask)(q:Za):Err (ZMV c a q).2:=by unfold ZMV;(repeat' split)<;>first|exact ZL9 _ _ _|exact ZXS _ _ _ _ _|exact ZYU _ _ _ _|(unfold Err;dsimp only;omega)
theorem ZZz(c:DC)(who:Int)(m:Msg):Err (ZBZ c who m).2:=by
 have j:∀ c who n o how,Err (ZAJ c who n o how).2:=λc who n o how=>by rw[(ZDC c who n o how).2.2];exact Zb2 _ _ _
 unfold ZBZ;split
 ·(unfold Err;dsimp only;omega)
 split
 .unfold ZAw ZCt ZCN;(repeat' split)<;>first|exact j _ _ _ _ _|exact ZbS _ _ _ _|exact ZTj _ _ _|exact Zay _ _ _|(unfold Err;dsimp only;omega)
 split
 .unfold ZCM ZIM;(repeat' split)<;>first|exact ZT5 _ _|exact Zaw _ _|exact ZYC _ _ _|(unfold Err;dsimp only;omega)
 split
 .unfold ZGK;(repeat' split)<;>first|exact Zb9 _ _ _|exact ZXA _ _ _|(unfold Err;dsimp only;omega)
 split
 .unfold ZDg;(repeat' split)<;>first|exact ZL9 _ _ _|exact ZcB _ _ _ _ _|(unfold Err;dsimp only;omega)
 split
 .unfold ZGh;split
  ·(unfold Err;dsimp only;omega)
  .exact ZXA _ _ _
 split
 .unfold ZBS;(repeat' split)<;>first|exact ZXn _ _|exact ZXs _ _ _|exact ZaD _ _|(unfold Err;dsimp only;omega)
 .unfold ZFz;(repeat' split)<;>(unfold Err;dsimp only;omega)
theorem ZZ5(w:WOk N S)(f:FOk S)(F:N<=9000)(H:ZFL m)(z:I64 seq):WOk (N+1) (doD S who seq m).1/\FOk (doD S who seq m).1/\(∀ o∈(doD S who seq m).2,ZCF o)/\(doD S who seq m).2.length<=400:=by
 have j:=Zaf (Za1 w f) F (who:=who) H;have hl:=ZKe (c:=ZBU S) w (who:=who) (m:=m);have G:I64 (ZBZ (ZBU S) who m).2:=by have:=ZZz (ZBU S) who m;exact⟨by unfold Err at this;omega,by unfold Err at this;omega⟩
 unfold doD;generalize ZBZ (ZBU S) who m=r at*;have E:(ZBU S).outs.length=0:=rfl;rw[E]at hl;split
 .exact ⟨j.w,j.f,(λo y=>by simp only[Xl]at y;subst y;exact ZEP ⟨by decide,by decide⟩ (Zbb z G)),by simp⟩
 .refine ⟨j.w,j.f,λo y=>?_,by simp only[XI];omega⟩;rcases Xm.1 y with rfl|y
  .exact ZEP ⟨by decide,by decide⟩ (Zbb z j.i)
  .exact j.o o y
end Go.Proofs.YtkmniidiifpdgaaGreat
