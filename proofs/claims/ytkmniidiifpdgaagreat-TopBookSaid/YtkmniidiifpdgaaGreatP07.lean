/- Made by program: of our texts what this law needs (RefK RefL RefN RefO RefP RefQ RefR RefS). -/
import Derived.Test.YtkmniidiifpdgaaGreatP06
set_option linter.unusedVariables false
namespace Go.Proofs.YtkmniidiifpdgaaGreat
open Go.Eng
open IntKind (i64 u64 u8)
abbrev VU:=@List.getElem_set_self
variable {N i n m nb np:Nat}{S T U:DS}{K:Hp->Prop}{sd qty q who bd on seq beat p0:Int}{Q:Int->Hp->Prop}{x:ZDL}{l b:List ZE}{p:Option Addr}{o:ZE}{s sb sp p1:Sl}{g:Msg}{c h gb gp:Hp}{k:RK}{os:List Out}{ps:List Z8}{bs:List Bond}{ss:List Sl}{ds cs:List Hp}{r:List Int}{xs:List Ask}{a:Ask}{t:Z2}
structure ROk (S:DS):Prop where
 bl:S.books.length=S.bonds.length
 b4:S.books.length<=4
 bonds:∀ b∈S.bonds,1<=b.Tick/\1<=b.Lot/\1<=b.Low/\b.High<=1000000/\1<=b.Min/\b.Max<=1000000
 books:∀ b∈S.books,ZBE b
 seqs:∀ b∈S.books,∀ x∈b,x.Seq<=S.seq
 pl:1<=S.parties.length
 o:0<=S.order/\S.order<=1000000
 s:0<=S.seq/\S.seq<=1000000
theorem Zad(w:WOk N S)(u:ZCU S)(f:1<=S.parties.length)(j:N<=1000000):ROk S where
 bl:=w.bl
 b4:=w.bl4
 bonds:=w.bonds
 books b hb:=⟨(u b hb).ids,(w.books b hb).1,λx e=>((u b hb).ok x e).1,(w.books b hb).2.2.1⟩
 seqs b hb x e:=((w.books b hb).2.2.2 x e).1
 pl:=f
 o:=by have:=w.c1;omega
 s:=by have:=w.c2;omega
theorem ROk.bond(w:ROk S)(f:(i:Int)<S.books.length):∃ x,S.bonds[i]?=some x/\x.Tick≠0/\x.Lot≠0:=by
 have hl:=w.bl;have e:i<S.bonds.length:=by omega
 have:=w.bonds _ (Xs e);exact⟨_,Xa e,by omega,by omega⟩
section
variable {k:RK}{S:DS}{n m:Nat}{h:Hp}{l:List Hp}{who seq id:Int}
theorem ZIi{v:Int}(w:i=2\/i=12\/i=13)(a:Zr k S n m h l){K:Hp->Prop}(j:∀ h',Zr k S n m h' l->K h'):ZS ci ⟨k.b,i,none⟩ v h K:=by
 obtain⟨z,R,o,f⟩:=a.nums;rcases w with rfl|rfl|rfl
 .exact ZX (cd:=ci) (x:=v) (vs':=ZBP k S {z with now:=v}) o rfl rfl (by show 2+1<=15;omega) λh' e=>j h' (f h' l v z.qn z.an S.order S.seq e)
 .exact ZX (cd:=ci) (x:=v) (vs':=ZBP k S {z with qn:=v}) o rfl rfl (by show 12+1<=15;omega) λh' e=>j h' (f h' l z.now v z.an S.order S.seq e)
 .exact ZX (cd:=ci) (x:=v) (vs':=ZBP k S {z with an:=v}) o rfl rfl (by show 13+1<=15;omega) λh' e=>j h' (f h' l z.now z.qn v S.order S.seq e)
theorem ZaO{sd price qty:Int}(a:Zr k S n m h l)(f:i<S.books.length)(v:ZBE S.books[i]){Q:Int->Hp->Prop}(y:∀ r h',Zr k S n m h' l->Q r h'):
 ZC cSl ⟨k.b,3,none⟩ h λs=>Zb s.a s.len (i:Int) λa=>ZC cP (a.add ((i:Int).toNat*1)) h λp=>cx 247 [vp p,vi sd,vi price,vi qty] ci h Q:=by
 obtain⟨c,R,q,A,o,w,e,j⟩:=a.book f;refine ZDj e (o.mem (by simp)) f (ZWx o (by simp) w v λr h' z=>y r h' ?_);have:=j h' c l _ z w;rw[WH]at this;exact this
theorem Zcg{price qty:Int}(a:Zr k S n m h l){Q:Int->Hp->Prop}(f:∀ r h',Zr k S n m h' l->Q r h'):cx 253 [vp k.pf,vi who,vi price,vi qty] ci h Q:=by obtain⟨c,R,o,w,e⟩:=a.firm;exact ZYj o w λr v h' j w'=>f r h' (e _ _ _ j w')
theorem ZYi{x:Int}(a:Zr k S n m h l){Q:Int->Hp->Prop}(j:¬(0<=x/\x<S.bonds.length)->Q (-1) h)(v:0<=x->x<S.bonds.length->Q x h):cx 233 [vp (sj k.b),vi x] ci h Q:=by refine c233 ?_;refine ZI (λt h'=>h'=h/\t=decide (¬(0<=x/\x<S.bonds.length))) ?_ λJ f=>ZG (λe=>f _ _ ⟨rfl,(XB (by omega)).symm⟩) λe=>a.bd λs d _ w=>f _ _ ⟨rfl,XE.2 (by have:=w.1;omega)⟩;rintro t h' ⟨rfl,rfl⟩;exact ZG (λe=>j e) λe=>v (by omega) (by omega)
theorem Zca{f:ZHM}(a:Zr k S n m h l)(r:ROk S)(hn:n<=900000)(hm:m<=900000){Q:Int->Hp->Prop}(F:∀ r h',Zr k S (n+2) (m+20) h' l->Q r h'):cx 154 [vp (sj k.b),vi who,vi seq,ZBy.enc f] ci h Q:=by
 refine c154 (d:=f) ?_;have v:∀ r,Q r h:=λr=>F r h (a.mono (by omega) (by omega));refine⟨by decide,by decide,ZYi a (λ_=>Zf rfl (v _)) λL X=>ZU (Xj (by omega)) ?_⟩;obtain⟨i,G⟩:=Wd L;have P:=r.bl;obtain⟨x,H,ht,hl⟩:=r.bond (i:=i) (by omega);refine ZI (λ_ h'=>h'=h) ?_ λJ y=>⟨by decide,by decide,ZD (λ_=>⟨by decide,by decide,y _ _ rfl⟩) λ_=>y _ _ rfl⟩
 rintro t h' rfl;refine ZD (λ_=>v _) λ_=>?_;rw[G];dsimp only[ZM];refine a.halted H (ZD (λ_=>v _) λ_=>⟨by decide,by decide,a.bond H (ZMx hl ?_)⟩);refine ZI (λ_ B=>B=h') ?_ λJ y=>ZD (λ_=>⟨by decide,by decide,a.ld (cd:=cP) (i:=4) λz=>⟨k.pf,rfl,?_⟩⟩) λ_=>y _ _ rfl
 .rintro e M rfl;refine ZD (λ_=>v _) λ_=>?_;refine ZI (λ_ B=>B=M) ?_ λJ y=>⟨by decide,by decide,ZD (λ_=>y _ _ rfl) λ_=>⟨by decide,by decide,y _ _ rfl⟩⟩
  rintro t2 Z rfl;refine ZD (λ_=>v _) λ_=>⟨by decide,by decide,by decide,by decide,by decide,by decide,by decide,by decide,?_⟩
  refine a.ld (cd:=ci) (i:=13) λz=>⟨z.an,rfl,a.ld (cd:=ci) (i:=2) λD=>⟨D.now,rfl,a.ld (cd:=cP) (i:=6) λ_=>⟨k.pa,rfl,?_⟩⟩⟩
  refine ZcA (x:=⟨i64.wrap (z.an+1),who,i,f.e1,f.e2,u64.wrap f.e3,i64.wrap (D.now+f.e4),0,1,0⟩) a (by omega) ⟨by dsimp only;omega,by dsimp only;omega⟩ λr4 h4 a4=>?_;refine ZD (λ_=>F _ _ (a4.mono (by omega) (by omega))) λ_=>?_;refine a4.ld (cd:=ci) (i:=13) λz3=>⟨z3.an,rfl,ZIi (.inr (.inr rfl)) a4 λh5 a5=>a5.ld (cd:=cP) (i:=7) λ_=>⟨k.pd,rfl,?_⟩⟩
  refine ZXk (x:=⟨i64.wrap (D.now+f.e4),1,i64.wrap (z.an+1)⟩) a5 (by omega) λ_ h6 a6=>ZCa (ns:=[seq,i64.wrap (z.an+1)]) rfl rfl a6 (by omega) λh7 I=>?_;refine Zc (λq h'=>∃ j:Nat,q=(j:Int)/\j<=8/\Zr k S (n+2) (m+1+j) h' l) (λq=>8-q.toNat) ⟨0,rfl,Xh _,I⟩ ?_;rintro J q h8 A ⟨j,rfl,hj,E⟩
  refine ZG (λV=>?_) λ_=>F _ _ (E.mono (Xc _) (by omega));refine ZI (λ_ h'=>Zr k S (n+2) (m+1+(j+1)) h' l) ?_ λW C=>⟨by rw[ZBb];omega,ZD (λ_=>⟨by decide,by decide,by decide,by decide,ZCa (ns:=[i64.wrap (z.an+1),f.e0,f.e1,f.e2,i64.wrap (D.now+f.e4)]) (by rw[G];rfl) rfl E (by omega) λO a9=>C _ _ a9⟩) λ_=>C _ _ (E.mono (Xc _) (by omega))⟩
  rintro _ O a9;rw[Z1 (by omega)];exact A _ _ ⟨j+1,rfl,by omega,a9⟩ (by omega)
 .obtain ⟨c,R,o,w,Y⟩:=a.firm;exact ZS3 (o.mem (by simp)) w λe=>y _ _ rfl
theorem Zal{price f:Int}(a:Zr k S n m h l)(r:ROk S)(R:n<=900000)(P:m<=900000){Q:Int->Hp->Prop}(C:∀ r h',Zr k S (n+2) (m+20) h' l->Q r h'):cx 155 [vp (sj k.b),vi who,vi seq,vi id,vi price,vi f] ci h Q:=by
 refine c155 ?_;have j:∀ r,Q r h:=λr=>C r h (a.mono (by omega) (by omega));dsimp only[ZM];refine a.ld (cd:=cP) (i:=6) λ_=>⟨k.pa,rfl,ZMF a (by omega) λx V y=>ZD (λ_=>j _) λe=>⟨by rw[ZBb];omega,ZD (λ_=>j _) λ_=>ZD (λ_=>j _) λ_=>?_⟩⟩
 have y:=y (.inl (by simpa using e));obtain⟨i,E⟩:=Wd y.1;rw[E];obtain⟨b,B,F,hl⟩:=r.bond (i:=i) (by omega);refine a.halted B (ZD (λ_=>j _) λ_=>a.bond B (ZLZ F (ZD (λ_=>j _) λ_=>?_)));refine ZI (λ_ h'=>h'=h) ?_ λJ A=>ZD (λ_=>A _ _ rfl) λ_=>A _ _ rfl;rintro t h' rfl;refine ZD (λ_=>j _) λ_=>?_;refine a.ld (cd:=ci) (i:=12) λz=>⟨z.qn,rfl,ZIi (.inr (.inl rfl)) a λG w=>w.ld (cd:=ci) (i:=12) λv=>⟨v.qn,rfl,w.ld (cd:=ci) (i:=2) λz3=>⟨z3.now,rfl,w.ld (cd:=cP) (i:=5) λ_=>⟨k.pq,rfl,?_⟩⟩⟩⟩
 refine ZcH (x:=⟨v.qn,id,who,price,i64.wrap (z3.now+f),true⟩) w (by omega) λW H a3=>a3.ld (cd:=cP) (i:=7) λ_=>⟨k.pd,rfl,ZGy a3 (by omega) λ_ I a4=>a4.ld (cd:=cP) (i:=7) λ_=>⟨k.pd,rfl,?_⟩⟩
 refine ZXk (x:=⟨i64.wrap (z3.now+f),3,v.qn⟩) a4 (by omega) λ_ L a5=>ZCa (ns:=[seq,v.qn]) rfl rfl a5 (by omega) λM a6=>ZCa (ns:=[id,v.qn,price,i64.wrap (z3.now+f)]) rfl rfl a6 (by omega) λO D=>C _ _ (D.mono (by omega) (by omega))
theorem ZcL(a:Zr k S n m h l)(D:n<=900000)(C:m<=900000){Q:Int->Hp->Prop}(v:∀ r h',Zr k S (n+2) (m+20) h' l->Q r h'):cx 156 [vp (sj k.b),vi who,vi seq,vi id] ci h Q:=by
 refine c156 ?_;have f:∀ r,Q r h:=λr=>v r h (a.mono (by omega) (by omega));dsimp only[ZM];refine a.ld (cd:=cP) (i:=5) λ_=>⟨k.pq,rfl,ZYl a (by omega) λy=>a.ld (cd:=cP) (i:=6) λ_=>⟨k.pa,rfl,ZMF a (by omega) λx F E=>ZD (λ_=>f _) λe=>ZD (λ_=>f _) λ_=>?_⟩⟩
 refine ZI (λ_ h'=>h'=h) ?_ λJ w=>ZD (λ_=>w _ _ rfl) λ_=>w _ _ rfl;rintro t h' rfl;refine ZD (λ_=>f _) λ_=>a.ld (cd:=cP) (i:=5) λ_=>⟨k.pq,rfl,ZZ2 a (by omega) λ_ z j=>ZD (λ_=>v _ _ (j.mono (by omega) (by omega))) λ_=>?_⟩
 exact j.ld (cd:=cP) (i:=7) λ_=>⟨k.pd,rfl,ZGy j (by omega) λ_ A a3=>ZCa (ns:=[seq,id]) rfl rfl a3 (by omega) λB a4=>v _ _ (a4.mono (by omega) (by omega))⟩
theorem ZcQ(a:Zr k S n m h l)(r:ROk S)(X:n<=900000)(W:m<=900000){Q:Int->Hp->Prop}(C:∀ r h',Zr k S (n+2) (m+20) h' l->Q r h'):cx 157 [vp (sj k.b),vi who,vi seq,vi id] ci h Q:=by
 refine c157 ?_;have f:∀ r,Q r h:=λr=>C r h (a.mono (by omega) (by omega));dsimp only[ZM];refine a.ld (cd:=cP) (i:=5) λ_=>⟨k.pq,rfl,ZYl a (by omega) λy=>a.ld (cd:=cP) (i:=6) λ_=>⟨k.pa,rfl,ZMF a (by omega) λx Z D=>ZD (λ_=>f _) λ_=>ZD (λ_=>f _) λ_=>ZD (λ_=>f _) λe=>?_⟩⟩
 have e:x.State=1:=by simpa using e
 have D:=D (.inr (by rw[e];decide));obtain⟨i,H⟩:=Wd D.1;rw[H];obtain⟨b,G,Y,hl⟩:=r.bond (i:=i) (by omega);refine ZI (λ_ h'=>h'=h) ?_ λJ A=>ZD (λ_=>A _ _ rfl) λ_=>a.ld (cd:=ci) (i:=2) λz=>⟨z.now,rfl,A _ _ rfl⟩
 rintro t h' rfl;refine ZD (λ_=>f _) λ_=>a.halted G (ZD (λ_=>f _) λ_=>ZaO a (by omega) (r.books _ (Xs _)) λr2 F j=>?_);refine ZI (λ_ B=>B=F) ?_ λJ A=>ZD (λ_=>j.ld (cd:=cP) (i:=4) λz=>⟨k.pf,rfl,?_⟩) λ_=>A _ _ rfl
 .rintro e L rfl;refine ZD (λ_=>C _ _ (j.mono (by omega) (by omega))) λ_=>?_;refine j.ld (cd:=cP) (i:=6) λ_=>⟨k.pa,rfl,j.ld (cd:=ci) (i:=2) λz=>⟨z.now,rfl,j.ld (cd:=ci) (i:=1) λv=>⟨v.look,rfl,ZaB j (by omega) λ_ M a4=>?_⟩⟩⟩
  refine a4.ld (cd:=cP) (i:=7) λ_=>⟨k.pd,rfl,a4.ld (cd:=ci) (i:=2) λz=>⟨z.now,rfl,a4.ld (cd:=ci) (i:=1) λv=>⟨v.look,rfl,?_⟩⟩⟩
  refine ZXk (x:=⟨i64.wrap (z.now+v.look),2,x.ID⟩) a4 (by omega) λ_ O a5=>ZCa (ns:=[seq,x.ID]) rfl rfl a5 (by omega) λP a6=>a6.ld (cd:=ci) (i:=2) λz=>⟨z.now,rfl,a6.ld (cd:=ci) (i:=1) λv=>⟨v.look,rfl,?_⟩⟩
  exact ZCa (ns:=[x.ID,id,i64.wrap (z.now+v.look)]) rfl rfl a6 (by omega) λV E=>C _ _ (E.mono (by omega) (by omega))
 .obtain ⟨c,R,o,w,I⟩:=j.firm;exact ZOZ (o.mem (by simp)) w λe _=>A _ _ rfl
theorem ZcK(a:Zr k S n m h l)(r:ROk S)(D:n<=900000)(C:m<=900000){Q:Int->Hp->Prop}(j:∀ r h',Zr k S (n+2) (m+20) h' l->Q r h'):cx 158 [vp (sj k.b),vi who,vi seq,vi id] ci h Q:=by
 refine c158 ?_;have f:∀ r,Q r h:=λr=>j r h (a.mono (by omega) (by omega));dsimp only[ZM];refine a.ld (cd:=cP) (i:=6) λ_=>⟨k.pa,rfl,ZMF a (by omega) λx H F=>ZD (λ_=>f _) λ_=>ZD (λ_=>f _) λ_=>ZD (λ_=>f _) λe=>a.ld (cd:=cP) (i:=5) λ_=>⟨k.pq,rfl,a.ld (cd:=ci) (i:=2) λz=>⟨z.now,rfl,?_⟩⟩⟩
 obtain⟨c,R,o,w,A⟩:=a.quotes;refine ZR3 o (by simp) w (by omega) λs d ys B o2 E G=>ZS9 (o2.mem (by simp)) E (by omega) λy=>?_;have v:Zr k S n m B l:=A _ c _ _ (Xc _) o2.tail w;exact ZD (λ_=>j _ _ (v.mono (by omega) (by omega))) λ_=>ZcQ v r D C j
theorem ZcC(a:Zr k S n m h l)(r:ROk S)(R:n<=900000)(P:m<=900000){Q:Int->Hp->Prop}(w:∀ r h',Zr k S (n+2) (m+20) h' l->Q r h'):cx 159 [vp (sj k.b),vi who,vi seq,vi id] ci h Q:=by
 refine c159 ?_;have j:∀ r,Q r h:=λr=>w r h (a.mono (by omega) (by omega));dsimp only[ZM];refine ZS8 a (by omega) λx y e A=>ZD (λ_=>j _) λe=>?_;have A:=A (by simpa using e);obtain⟨i,F⟩:=Wd A.1;rw[F];obtain⟨b,E,V,hl⟩:=r.bond (i:=i) (by omega);refine a.halted E (ZD (λ_=>j _) λ_=>ZaO a (by omega) (r.books _ (Xs _)) λW G v=>?_);refine ZI (λ_ h'=>Zr k S n m h' l) ?_ λJ f=>ZD (λ_=>v.ld (cd:=cP) (i:=4) λz=>⟨k.pf,rfl,Zcg v λ_ C a3=>f _ _ a3⟩) λ_=>f _ _ v;rintro e C a3;refine ZD (λ_=>w _ _ (a3.mono (by omega) (by omega))) λ_=>a3.ld (cd:=cP) (i:=6) λ_=>⟨k.pa,rfl,ZbO a3 (by omega) λ_ H a4=>ZXK a4 (by omega) λI a5=>?_⟩
 refine ZCa (ns:=[seq,id]) rfl rfl a5 (by omega) λL a6=>ZCa (ns:=[id,y.Price]) rfl rfl a6 (by omega) λD B=>?_;refine ZI (λ_ h'=>h'=D) ?_ λJ f=>ZD (λ_=>f _ _ rfl) λ_=>f _ _ rfl;rintro t M rfl;exact ZXI (t:=t) B r.pl (by omega) (by omega) λO a9=>w _ _ (a9.mono (by omega) (by omega))
theorem ZcE(a:Zr k S n m h l)(A:n<=900000)(z:m<=900000){Q:Int->Hp->Prop}(f:∀ r h',Zr k S (n+2) (m+20) h' l->Q r h'):cx 160 [vp (sj k.b),vi who,vi seq,vi id] ci h Q:=by refine c160 ?_;exact ZS8 a (by omega) λx y e B=>ZD (λ_=>f _ _ (a.mono (by omega) (by omega))) λ_=>ZCa (ns:=[seq,id]) rfl rfl a (by omega) λv j=>Zau (x:=x) j (by omega) (by omega) λw a3=>f _ _ (a3.mono (by omega) (by omega))
theorem ZFq(a:Zr k S n m h l)(A:n<=900000)(z:m<=900000){Q:Int->Hp->Prop}(j:∀ r h',Zr k S (n+2) (m+20) h' l->Q r h'):cx 161 [vp (sj k.b),vi who,vi seq,vi id] ci h Q:=by refine c161 ?_;have f:∀ r,Q r h:=λr=>j r h (a.mono (by omega) (by omega));dsimp only[ZM];exact a.ld (cd:=cP) (i:=6) λ_=>⟨k.pa,rfl,ZMF a (by omega) λx C B=>ZD (λ_=>f _) λ_=>ZD (λ_=>f _) λ_=>ZD (λ_=>f _) λe=>ZCa (ns:=[seq,id]) rfl rfl a (by omega) λw v=>ZYn (x:=x) v (by omega) (by omega) λy a3=>j _ _ (a3.mono (by omega) (by omega))⟩
end
theorem ZJJ{id:Int}(h:(ZKh l id).isSome=true):(ZIg l id).2=true/\(ZIg l id).1∈l/\(ZIg l id).1.ID=id:=by
 unfold ZIg;cases e:ZKh l id with
 | none=>rw[e]at h;cases h
 | some o=>
   unfold ZKh at e;exact⟨rfl,Yq e,by simpa using VT e⟩
theorem ZWC{id:Int}(h:(ZKh l id).isSome=false):ZIg l id=(ZQm,false):=by
 unfold ZIg;cases e:ZKh l id with
 | none=>rfl
 | some o=>rw[e]at h;cases h
theorem ZNk{b:Bond}{p:Int}(h:ZD9 b p q=0):(b.Low<=p/\p<=b.High)/\b.Min<=q/\q<=b.Max:=by
 unfold ZD9 ZCv ZPl at h;split at h
 .cases h
 ·by_cases e:b.Low<=p/\p<=b.High
  .by_cases f:b.Min<=q/\q<=b.Max
   .exact ⟨e,f⟩
   .rw [Xe e,Xd f]at h;by_cases j:p.tmod b.Tick=0
    .rw [Xe j,Xd (by decide)]at h;cases h
    .rw [Xd j,Xe (by decide)]at h;cases h
  .rw [Xd e,Xe (by decide)]at h;cases h
theorem ZMk{s p:Int}(h:ZBE l)(B:∀ x∈l,x.Seq<=s)(G:0<=s)(v:o∈l)(w:1<=p/\p<=1000000)(y:1<=q/\q<=1000000):(doV (ZAE l o.ID) {ZA0 o p q with Seq:=s+1} 0).2.2.2.2=0:=by
 have f:=h.ok o v;have hl:=(ZF0 h.ids v).length_eq;have j:=h.len;rw[XI]at hl;unfold Zn at f;simp only[Xf,Xw]at f;have A:ZCf (ZAE l o.ID) {ZA0 o p q with Seq:=s+1} 0=true:=by
  unfold ZCf;rw[Xd (by omega),Xd (by simp),Xd ?_,Xd (by decide)]
  .unfold Zn ZA0;simp only[Xf,Xw];exact⟨f.1,by omega,w.1,w.2,y.1,y.2,f.2.2.2.2.2.2.1,f.2.2.2.2.2.2.2⟩
  .intro z;obtain⟨x,D,e⟩:=WC.1 z;obtain⟨E,F⟩:=ZJ9 h.ids x D;have H:=B x E;simp only[ZA0,Xf,Wf,WS]at e;rcases e.2 with e|e
   .exact F e
   .omega
 have C:ZBw (ZAE l o.ID) {ZA0 o p q with Seq:=s+1} 0=0:=by unfold ZBw;rw[Xd (by rw[A];simp),Xd (by omega),Xd (by omega),Xd (by omega)]
 unfold doV;rw[Xd (by rw[C];simp)]
section
variable {k:RK}{S:DS}{n m:Nat}{h:Hp}{l:List Hp}{who seq id:Int}
theorem ZZu(a:Zr k S n m h l)(r:ROk S){Q:ZE×Int->Hp->Prop}(C:ZAT S id=none->Q (ZQm,-1) h)(D:∀ (i:Nat) (G:i<S.books.length),ZAT S id=some i->(ZKh S.books[i] id).isSome=true->Q ((ZIg S.books[i] id).1,i) h):
 cx 238 [vp (sj k.b),vi id] (ZV [ZF,ci]) h Q:=by
 refine c238 ?_;refine Zc (λz h'=>h'=h/\z.1=ZQm/\∃ i:Nat,z.2=(i:Int)/\i<=S.books.length/\∀ (j:Nat) (v:j<S.books.length),j<i->(ZKh S.books[j] id).isSome=false) (λz=>S.books.length-z.2.toNat) ⟨rfl,rfl,0,rfl,Xh _,λj _ v=>by omega⟩ ?_;rintro J ⟨x,O⟩ h' again ⟨rfl,hx,i,hzi,G,hno⟩
 dsimp only at hx hzi;subst hx hzi;dsimp only[ZM];refine a.bk λs M=>?_;refine ZG (λB=>?_) λF=>?_
 ·have f:i<S.books.length:=by omega
  obtain⟨c,R,q,H,o,w,y,I⟩:=a.book f;refine ZDj y (o.mem (by simp)) f (ZUs (o.mem (by simp)) w (by have:=(r.books _ (Xs f)).len;omega) ?_);cases e:(ZKh S.books[i] id).isSome with
  | true=>
    exact Zf (ZJJ e).1 (D i f (WA.2 ⟨f,e,λj v=>by rw[hno j (by omega) v];simp⟩) e)
  | false=>
    refine ZU (by rw[ZWC e]) ?_;have L:=r.b4;rw[Z1 (by omega)];exact again _ _ ⟨rfl,rfl,i+1,rfl,by omega,λj v B=>by
     by_cases A:j=i
     .subst A;exact e
     .exact hno j v (by omega)⟩ (by dsimp only;omega)
 .exact C (WL.2 λb E=>by
   obtain⟨j,v,rfl⟩:=List.getElem_of_mem E;exact hno j v (by omega))
theorem ZFO(e:i<S.books.length):Zj S (i:Int)=S.books[i]:=by unfold Zj;rw[XD,Xa e];rfl
theorem ZMu{x:Bond}(e:S.bonds[i]?=some x):ZAL S (i:Int)=x:=by unfold ZAL;rw[XD,e];rfl
theorem ZcN{v o2 s2:Int}(a:Zr k S n m h l)(w:(i=10/\o2=v/\s2=S.seq)\/(i=11/\o2=S.order/\s2=v)){K:Hp->Prop}(j:∀ h',Zr k {S with order:=o2,seq:=s2} n m h' l->K h'):ZS ci ⟨k.b,i,none⟩ v h K:=by
 obtain⟨z,R,o,f⟩:=a.nums;rcases w with ⟨rfl,rfl,rfl⟩|⟨rfl,rfl,rfl⟩
 .exact ZX (cd:=ci) (x:=o2) (vs':=ZBP k {S with order:=o2} z) o rfl rfl (by show 10+1<=15;omega) λh' e=>j h' (f h' l z.now z.qn z.an o2 S.seq e)
 .exact ZX (cd:=ci) (x:=s2) (vs':=ZBP k {S with seq:=s2} z) o rfl rfl (by show 11+1<=15;omega) λh' e=>j h' (f h' l z.now z.qn z.an S.order s2 e)
theorem ZZE{g:Msg}(a:Zr k S n m h l)(r:ROk S)(I:g.Kind=7)(z:g.F_0=id)(M:n<=900000)(L:m<=800000){Q:Int->Hp->Prop}(f:∀ r h',Zr k (ZAw (ZBU S) who g).1.d (n+65) (m+420) h' l->Q r h'):
 cx 152 [vp (sj k.b),vi who,vi seq,vi id] ci h Q:=by
 refine c152 ?_;unfold ZAw at f;rw[Xd (by omega),z]at f;have a0:Zr k S (n+65) (m+420) h l:=a.mono (by omega) (by omega);refine ZZu a r (λe=>?_) λi j e O=>?_
 .have e:ZAT (ZBU S).d id=none:=e;rw[e]at f;exact Zf rfl (f _ _ a0)
 have e:ZAT (ZBU S).d id=some i:=e;rw[e]at f;dsimp only at f;have C:Zj (ZBU S).d ((i:Nat):Int)=S.books[i]:=ZFO j;rw[C]at f;refine ZU (Xj (by show ¬((i:Nat):Int)<0;omega)) (ZD (λv=>?_) λv=>?_)
 .rw [Xe (by simpa using v)]at f;exact f _ _ a0
 rw[Xd (by simpa using v),Xd (by omega)]at f;obtain⟨c,R,q,F,o,w,y,B⟩:=a.book j;dsimp only[ZM];refine ZDj y (o.mem (by simp)) j (ZEN o w (by have:=(r.books _ (Xs j)).len;omega) λ_ c2 D o2 E=>?_);have A:=B D c2 l _ o2 E;refine ZCa (ns:=[seq,id]) rfl rfl A (by omega) λG a3=>ZCa (ns:=[id,(ZIg S.books[i] id).1.Left]) rfl rfl a3 (by omega) λH a4=>f _ _ ((a4.mono (by omega) (by omega)).eq5 ⟨rfl,?_,rfl,rfl,rfl⟩);show S.books.set ((i:Int).toNat) (ZAE (Zj S (i:Int)) id)=_;rw[ZFO j];rfl
theorem ZYx{g:Msg}{price qty:Int}(a:Zr k S n m h l)(r:ROk S)(hk:g.Kind=8)(P:g.F_0=id)(V:g.F_1=price)(W:g.F_2=qty)(hn:n<=900000)(hm:m<=800000){Q:Int->Hp->Prop}(f:∀ r h',Zr k (ZAw (ZBU S) who g).1.d (n+65) (m+420) h' l->Q r h'):
 cx 153 [vp (sj k.b),vi who,vi seq,vi id,vi price,vi qty] ci h Q:=by
 refine c153 ?_;unfold ZAw at f;rw[Xd (by omega),P,V,W]at f;have a0:Zr k S (n+65) (m+420) h l:=a.mono (by omega) (by omega);refine ZZu a r (λe=>?_) λi hi e hs=>?_
 .have e:ZAT (ZBU S).d id=none:=e;rw[e]at f;exact Zf rfl (f _ _ a0)
 have e:ZAT (ZBU S).d id=some i:=e;rw[e]at f;dsimp only at f;have eb:Zj (ZBU S).d ((i:Nat):Int)=S.books[i]:=ZFO hi;rw[eb]at f;refine ZU (Xj (by show ¬((i:Nat):Int)<0;omega)) (ZD (λG=>?_) λG=>?_)
 .rw [Xe (by simpa using G)]at f;exact f _ _ a0
 rw[Xd (by simpa using G),Xe hk]at f;obtain⟨x,Z,ht,hl⟩:=r.bond (i:=i) (by omega);have hbr:=r.bonds x (Xn Z);obtain⟨f1,f2,L⟩:=ZJJ hs;have B:=r.books _ (Xs hi);have X:=r.seqs _ (Xs hi);have hb64:=B.len;generalize (ZIg S.books[i] id).1=y at*;unfold ZCN at f;have I:ZAL {ZBU S with id:=id}.d ((i:Nat):Int)=x:=ZMu Z;rw[I]at f;dsimp only[ZM];refine a.bond Z (ZMD ht hl (ZD (λC=>?_) λC=>?_))
 .rw [Xe (by simpa using C)]at f;exact f _ _ a0
 have C:ZD9 x price qty=0:=by simpa using C
 rw[Xd (by simp[C])]at f;have hcr:=ZNk C;have H:Zj {ZBU S with id:=id}.d ((i:Nat):Int)=S.books[i]:=ZFO hi;rw[H]at f;have ebk:∀ z,(ZAb S ((i:Nat):Int) z).books=S.books.set i z:=λz=>rfl;refine ZI (λt h'=>h'=h/\t=decide (price=y.Price/\qty<=y.Left)) ?_ λJ hJ=>ZD (λv=>hJ _ _ ⟨rfl,?_⟩) λv=>hJ _ _ ⟨rfl,?_⟩
 ·rintro t h' ⟨rfl,rfl⟩;obtain⟨c,R,q,ad,o,w,A,cl⟩:=a.book hi;refine ZG (λv=>?_) λv=>?_
  .rw [Xe v]at f;refine ZDj A (o.mem (by simp)) hi (ZLw o w (by omega) λ_ c2 M o2 w2=>?_);have E:=cl M c2 l _ o2 w2;refine ZCa (ns:=[seq,id]) rfl rfl E (by omega) λh3 a3=>f _ _ ((a3.mono (by omega) (by omega)).eq5 ⟨rfl,?_,rfl,rfl,rfl⟩);show S.books.set i (ZC6 S.books[i] y.ID qty).1=_;rw[L]
  .rw [Xd v]at f;refine ZDj A (o.mem (by simp)) hi (ZEN o w (by omega) λ_ c2 M o2 w2=>?_);have E:=cl M c2 l _ o2 w2;have Y:=r.s;refine E.ld (cd:=ci) (i:=11) λz=>⟨S.seq,rfl,ZcN (s2:=S.seq+1) (o2:=S.order) E (.inr ⟨rfl,rfl,(w64 (by omega) (by omega)).symm⟩) λh3 a3=>a3.ld (cd:=ci) (i:=11) λz=>⟨S.seq+1,rfl,?_⟩⟩
   have hi3:i<(S.books.set i (ZAE S.books[i] id)).length:=by rw[Xp];exact hi
   obtain⟨c4,R4,q4,ad4,o4,w4,D,F⟩:=a3.book hi3;rw[show ({S with books:=S.books.set i (ZAE S.books[i] id),order:=S.order,seq:=S.seq+1}:DS).books[i]'hi3=ZAE S.books[i] id from VU hi3]at w4;have O:ZBE (ZAE S.books[i] id):=B.sub (ZAG _ _);have j:=ZMk B X Y.1 f2 (p:=price) (q:=qty) (by omega) (by omega);rw[L]at j;refine ZDj D (o4.mem (by simp)) hi3 (ZW5 (x:={ZA0 y price qty with Seq:=S.seq+1}) o4 w4 O λs1 d1 s2 d2 c5 h5 o5 w5 w6 w7 l6 l7=>?_);have a5:Zr k _ n m h5 (d1::d2::l):=F h5 c5 (d1::d2::l) _ (o5.pick [0,3,1,2] 4) w5;refine ZCa (ns:=[seq,id]) rfl rfl a5 (by omega) λh6 a6=>?_;refine ZcV (x:={ZA0 y price qty with Seq:=S.seq+1}) a6 r.pl (by omega) (by omega) (by simp) (by simp) w6 w7 l6 l7 λh7 a7=>?_;refine f _ _ ((a7.drop.drop.mono (Xc _) (by omega)).eq5 ?_);obtain⟨k1,_,k3⟩:=ZDC {{ZBU S with id:=id} with d:=ZAb {ZBU S with id:=id}.d ((i:Nat):Int) (ZAE S.books[i] y.ID)} who ((i:Nat):Int) (ZA0 y price qty) 0;have em:ZG5 {{ZBU S with id:=id} with d:=ZAb {ZBU S with id:=id}.d ((i:Nat):Int) (ZAE S.books[i] y.ID)} ((i:Nat):Int) (ZA0 y price qty) 0=doV (ZAE S.books[i] id) {ZA0 y price qty with Seq:=S.seq+1} 0:=by
    unfold ZG5;rw[L];have:Zj (ZAb S ((i:Nat):Int) (ZAE S.books[i] id)) ((i:Nat):Int)=ZAE S.books[i] id:=by rw[ZFO (S:=ZAb S ((i:Nat):Int) (ZAE S.books[i] id)) hi3];exact VU hi3
    exact congrArg (λb=>doV b {ZA0 y price qty with Seq:=S.seq+1} 0) this
   rw[em]at k1 k3;rw[j]at k3;rw[k1,k3];exact⟨rfl,by show (S.books.set i (ZAE S.books[i] y.ID)).set i _=(S.books.set i (ZAE S.books[i] id)).set i _;rw[WW,WW],rfl,rfl,rfl⟩
 .have v:price=y.Price:=by simpa using v
  exact XE.2 (by simp[v])
 .exact (Xj λh=>by simp[h.1]at v).symm
theorem ZZp{g:Msg}(a:Zr k S n m h l)(r:ROk S)(hn:n<=900000)(hm:m<=800000){Q:Int->Hp->Prop}(j:∀ r h',Zr k (ZCt (ZBU S) who g).1.d (n+65) (m+420) h' l->Q r h'):
 cx 151 [vp (sj k.b),vi who,vi seq,ZBy.enc ⟨g.F_0,g.F_1,g.F_2,g.F_3,g.F_4,g.F_5⟩] ci h Q:=by
 refine c151 (d:=⟨g.F_0,g.F_1,g.F_2,g.F_3,g.F_4,g.F_5⟩) ?_;dsimp only;unfold ZCt at j;have a0:Zr k S (n+65) (m+420) h l:=a.mono (by omega) (by omega);have hbl:=r.bl;refine⟨by decide,by decide,ZYi a (λe=>?_) λM b1=>ZU (Xj (by omega)) ?_⟩
 .rw [Xe (by unfold isBond;exact Xj (by show ¬(0<=g.F_0/\g.F_0<S.books.length);omega))]at j;exact Zf rfl (j _ _ a0)
 rw[Xd (by unfold isBond;rw[XB (show 0<=g.F_0/\g.F_0<(ZBU S).d.books.length from ⟨M,by show _<(S.books.length:Int);omega⟩)];simp)]at j;obtain⟨i,hi⟩:=Wd M;rw[hi]at j⊢;have C:i<S.books.length:=by omega
 obtain⟨x,X,ht,hl⟩:=r.bond (i:=i) (by omega);have F:ZAL (ZBU S).d ((i:Nat):Int)=x:=ZMu X;rw[F]at j;have key:∀ (D:Bool->Hp->Prop),(∀ t,(t=true↔(ZAd g.F_1=false\/g.F_4<0\/4<g.F_4)\/(g.F_4=4/\g.F_2≠0))->D t h)->ZAd g.F_1=true->
   atP 6 4 (ZB (decide (g.F_4<0)) (D true h) (atP 6 4 (ZB (decide (g.F_4>4)) (D true h) (atP 6 4 (ZB (g.F_4==4) (atP 6 2 (D (g.F_2 != 0) h)) (D false h)))))):=λD B L=>
  ⟨by decide,by decide,ZG (λe=>B _ ⟨λ_=>.inl (.inr (.inl e)),λ_=>rfl⟩) λV=>⟨by decide,by decide,ZG (λe=>B _ ⟨λ_=>.inl (.inr (.inr e)),λ_=>rfl⟩) λy=>⟨by decide,by decide,ZD (λf=>⟨by decide,by decide,B _ ?_⟩) λf=>B _ ?_⟩⟩⟩
 ·refine ZI (λt h'=>h'=h/\(t=true↔(ZAd g.F_1=false\/g.F_4<0\/4<g.F_4)\/(g.F_4=4/\g.F_2≠0))) ?_ λJ B=>?_
  ·rintro t h' ⟨rfl,E⟩;refine ZD (λe=>?_) λe=>?_
   .have e:=E.1 e;by_cases y:ZAd g.F_1=false\/g.F_4<0\/4<g.F_4
    .rw [Xe y]at j;exact j _ _ a0
    .have e:=e.resolve_left y;rw[Xd y,Xe (by unfold ZHZ;rw[Xd (by omega),Xe e.2];simp)]at j;exact j _ _ a0
   have e:¬((ZAd g.F_1=false\/g.F_4<0\/4<g.F_4)\/(g.F_4=4/\g.F_2≠0)):=λh=>by rw[E.2 h]at e;cases e
   have V:¬(ZAd g.F_1=false\/g.F_4<0\/4<g.F_4):=λh=>e (.inl h);have y:¬(g.F_4=4/\g.F_2≠0):=λh=>e (.inr h);rw[Xd V]at j;dsimp only[ZM];refine a.bond X ⟨by decide,by decide,by decide,by decide,ZMD ht hl ?_⟩;refine ZI (λv G=>G=h'/\v=ZHZ x g.F_4 g.F_2 g.F_3) ?_ λJ B=>⟨by decide,by decide,ZD (λf=>⟨by decide,by decide,ZMx hl (ZD (λA=>B _ _ ⟨rfl,?_⟩) λA=>B _ _ ⟨rfl,?_⟩)⟩) λf=>B _ _ ⟨rfl,?_⟩⟩
   .rintro v h2 ⟨rfl,rfl⟩;refine ZD (λf=>?_) λf=>?_
    .rw [Xe (by simpa using f)]at j;exact j _ _ a0
    rw[Xd (by simpa using f)]at j;have ho:=r.o;have L:=r.s;refine⟨by decide,by decide,by decide,by decide,by decide,by decide,?_⟩;refine a.ld (cd:=ci) (i:=10) λz=>⟨S.order,rfl,a.ld (cd:=ci) (i:=11) λz=>⟨S.seq,rfl,by decide,by decide,?_⟩⟩
    rw[w64 (n:=S.order+1) (by omega) (by omega),w64 (n:=S.seq+1) (by omega) (by omega)];obtain⟨c,R,q,ad,o,w,H,cl⟩:=a.book C;obtain⟨k1,_,Y⟩:=ZDC (ZBU S) who ((i:Nat):Int) (ZAh (ZBU S) who g) g.F_4;have em:ZG5 (ZBU S) ((i:Nat):Int) (ZAh (ZBU S) who g) g.F_4=doV S.books[i] ⟨S.order+1,S.seq+1,who,g.F_1,g.F_2,g.F_3⟩ g.F_4:=congrArg (λb=>doV b (⟨S.order+1,S.seq+1,who,g.F_1,g.F_2,g.F_3⟩:ZE) g.F_4) (ZFO (S:=S) C);rw[em]at k1 Y;have I:=r.books _ (Xs C);refine ZDj H (o.mem (by simp)) C (ZW5 (x:=⟨S.order+1,S.seq+1,who,g.F_1,g.F_2,g.F_3⟩) o w I λs1 O s2 P c5 W o5 w5 w6 w7 l6 l7=>?_);have a5:Zr k _ n m W (O::P::l):=cl W c5 (O::P::l) _ (o5.pick [0,3,1,2] 4) w5;dsimp only;rw[<-Y];refine ZD (λA=>?_) λA=>?_
    .have A:(ZAJ (ZBU S) who ((i:Nat):Int) (ZAh (ZBU S) who g) g.F_4).2≠0:=by simpa using A
     rw[Xd A]at j;refine j _ _ ((a5.drop.drop.mono (by omega) (by omega)).eq5 ?_);rw[k1,Xd A];exact⟨rfl,rfl,rfl,rfl,rfl⟩
    .have A:(ZAJ (ZBU S) who ((i:Nat):Int) (ZAh (ZBU S) who g) g.F_4).2=0:=by simpa using A
     rw[Xe A]at j;refine a5.ld (cd:=ci) (i:=10) λz=>⟨S.order,rfl,ZcN (o2:=S.order+1) (s2:=S.seq) a5 (.inl ⟨rfl,(w64 (by omega) (by omega)).symm,rfl⟩) λh6 a6=>a6.ld (cd:=ci) (i:=11) λz=>⟨S.seq,rfl,ZcN (o2:=S.order+1) (s2:=S.seq+1) a6 (.inr ⟨rfl,rfl,(w64 (by omega) (by omega)).symm⟩) λh7 Z=>?_⟩⟩
     refine ZCa (ns:=[seq,S.order+1]) rfl rfl Z (by omega) λh8 a8=>⟨by decide,by decide,?_⟩
     refine ZcV (x:=⟨S.order+1,S.seq+1,who,g.F_1,g.F_2,g.F_3⟩) a8 r.pl (by omega) (by omega) (by simp) (by simp) w6 w7 l6 l7 λh9 a9=>?_;refine j _ _ ((a9.drop.drop.mono (Xc _) (by omega)).eq5 ?_);unfold ZZs;dsimp only;rw[k1,Xe A];exact⟨rfl,rfl,rfl,rfl,rfl⟩
   .have f:g.F_4=4:=by simpa using f
    have e5:g.F_2=0:=VC λh=>y ⟨f,h⟩;unfold ZHZ;rw[Xd (by omega),Xd (by omega),Xe A]
   .have f:g.F_4=4:=by simpa using f
    have e5:g.F_2=0:=VC λh=>y ⟨f,h⟩;unfold ZHZ;rw[Xd (by omega),Xd (by omega),Xd (by rw[A];simp)]
   .unfold ZHZ;rw[Xe (by simpa using f)]
  .refine ⟨by decide,by decide,ZD (λe=>⟨by decide,by decide,ZD (λy=>B _ _ ⟨rfl,?_⟩) λy=>key J (λt h=>B t _ ⟨rfl,h⟩) ?_⟩) λe=>key J (λt h=>B t _ ⟨rfl,h⟩) ?_⟩
   .exact ⟨λ_=>.inl (.inl (by unfold ZAd;simp at e y;simp[e,y])),λ_=>rfl⟩
   .unfold ZAd;simp at y;simp[y]
   .unfold ZAd;simp at e;simp[e]
 .have f:g.F_4=4:=by simpa using f
  simp[L,f]
 .have f:g.F_4≠4:=by simpa using f
  simp only[Wb,false_iff];rintro(h|h)
  .rw [L]at h;simp at h;omega
  .exact f h.1
end
theorem Eq5.refl(S:DS):Eq5 S S:=⟨rfl,rfl,rfl,rfl,rfl⟩
theorem ZYN(c:DC)(a:Ask)(q:Za):Eq5 c.d (ZMV c a q).1.d:=by unfold ZMV;(repeat' split)<;>exact⟨rfl,rfl,rfl,rfl,rfl⟩
theorem ZWr{c:DC}(h:¬(g.Kind=6\/g.Kind=7\/g.Kind=8))(e:g.Kind=9\/10<=g.Kind/\g.Kind<=16):Eq5 c.d (ZBZ c who g).1.d:=by
 unfold ZBZ;split
 .exact Eq5.refl _
 split
 .unfold ZCM ZIM;(repeat' split)<;>exact⟨rfl,rfl,rfl,rfl,rfl⟩
 split
 .unfold ZGK;(repeat' split)<;>first|exact⟨rfl,rfl,rfl,rfl,rfl⟩|exact ZYN c _ _
 split
 .unfold ZDg ZAQ;(repeat' split)<;>exact⟨rfl,rfl,rfl,rfl,rfl⟩
 split
 .unfold ZGh;split<;>exact⟨rfl,rfl,rfl,rfl,rfl⟩
 split
 .unfold ZBS;(repeat' split)<;>first|exact⟨rfl,rfl,rfl,rfl,rfl⟩|skip
  have h:=(ZEq (Z6 c who g) (List.range c.d.parties.length) (ZN3 c (Z6 c who g))).1;dsimp only;rw[h];exact⟨rfl,rfl,rfl,rfl,rfl⟩
 .omega
variable {l:List Hp}
theorem Zb1(a:Zr k S n m h l)(r:ROk S)(X:n<=900000)(W:m<=800000)(f:∀ r h',Zr k (ZFz (ZBU S) bd on).1.d (n+65) (m+420) h' l->Q r h'):
 cx 162 [vp (sj k.b),vi who,vi seq,vi bd,vi on] ci h Q:=by
 refine c162 ?_;unfold ZFz at f;have a0:Zr k S (n+65) (m+420) h l:=a.mono (by omega) (by omega);have H:=r.bl;refine ZYi a (λe=>?_) λA P=>ZU (Xj (by omega)) ?_
 .rw [Xe (by unfold isBond;exact Xj (by show ¬(0<=bd/\bd<S.books.length);omega))]at f;exact Zf rfl (f _ _ a0)
 rw[Xd (by unfold isBond;rw[XB (show 0<=bd/\bd<(ZBU S).d.books.length from ⟨A,by show _<(S.books.length:Int);omega⟩)];simp)]at f;obtain⟨i,I⟩:=Wd A;subst I;obtain⟨x,v,Y,hl⟩:=r.bond (i:=i) (by omega);have j:ZAL (ZBU S).d ((i:Nat):Int)=x:=ZMu v;rw[j]at f;refine ZI (λt h'=>h'=h/\t=decide (on≠0/\on≠1)) ?_ λJ B=>ZD (λe=>B _ _ ⟨rfl,?_⟩) λe=>B _ _ ⟨rfl,?_⟩
 .rintro t h' ⟨rfl,rfl⟩;refine ZG (λe=>?_) λe=>?_
  .rw [Xe e]at f;exact f _ _ a0
  rw[Xd e]at f;dsimp only[ZM];obtain⟨c,R,o,w,F⟩:=a.bonds;have D:=w.1;have L:=(Xi.1 v).1;refine a.ld (cd:=cSl) (i:=0) λz=>⟨k.sb,rfl,ZN w.row (Xb i) (by omega) λO C=>?_⟩
  rw[w.part_at C];refine Zz (cd:=Zs) (cf:=cB) o rfl rfl w C v rfl (k:=6) (y:=on==1) (x':=ZWD on x) rfl (by decide) λc2 G o2 M=>?_;have E:=F G c2 l _ o2 M;refine ZCa (ns:=[seq,i]) rfl rfl E (by omega) λV a3=>f _ _ ((a3.mono (by omega) (by omega)).eq5 ⟨rfl,rfl,rfl,rfl,rfl⟩)
 .have e:on≠0:=by simpa using e
  rw[XA];simp[e]
 .exact (Xj λh=>by simp at e;exact h.1 e).symm
theorem Zbs(a:Zr k S n m h l)(r:ROk S)(v:n<=900000)(F:m<=800000)(A:∀ r h',Zr k (ZBZ (ZBU S) who g).1.d (n+65) (m+420) h' l->Q r h'):
 cx 90 [vp (sj k.b),vi who,vi seq,ZAk.enc g] ci h Q:=by
 refine c90 (d:=g) ?_;obtain⟨M,o,V⟩:=a;refine ZI (λt h'=>Zr k S n m h' l/\t=!ZMX S who g) ?_ λJ E=>ZXR (m:=g) o λB P=>?_
 .rintro t L ⟨a,rfl⟩;have a0:Zr k S (n+65) (m+420) L l:=a.mono (by omega) (by omega);refine ZD (λe=>?_) λe=>?_
  .unfold ZBZ at A;have e:ZMX S who g=false:=by simpa using e
   rw[Xe (show ZMX (ZBU S).d who g=false from e)]at A;exact A _ _ a0
  have e:ZMX S who g=true:=by simpa using e
  have e:ZMX (ZBU S).d who g=true:=e;have X:6<=g.Kind/\g.Kind<=17:=by unfold ZMX at e;simp only[Xf,Xw]at e;exact e.1
  have C:¬ZMX (ZBU S).d who g=false:=by rw[e];simp
  have rest:¬(g.Kind=6\/g.Kind=7\/g.Kind=8)->g.Kind≠17->∀ r h',Zr k S (n+2) (m+20) h' l->Q r h':=λB L r h' a'=>A r h' ((a'.mono (by omega) (by omega)).eq5 (ZWr (c:=ZBU S) B (by omega)));have y:(g.Kind=6\/g.Kind=7\/g.Kind=8)->∀ r h',Zr k (ZAw (ZBU S) who g).1.d (n+65) (m+420) h' l->Q r h':=λB r h' a'=>A r h' (by unfold ZBZ;rw[Xd C,Xe B];exact a');refine ZD (λe=>?_) λG=>?_
  .have e:g.Kind=6:=by simpa using e
   exact ZZp a r (by omega) (by omega) λr h' a'=>y (.inl e) r h' (by unfold ZAw;rw[Xe e];exact a')
  refine ZD (λe=>⟨by decide,by decide,ZZE a r (by simpa using e) rfl v F (y (.inr (.inl (by simpa using e))))⟩) λH=>?_;refine ZD (λe=>⟨by decide,by decide,by decide,by decide,by decide,by decide,ZYx a r (by simpa using e) rfl rfl rfl v F (y (.inr (.inr (by simpa using e))))⟩) λI=>?_;have G:g.Kind≠6:=by simpa using G
  have H:g.Kind≠7:=by simpa using H
  have I:g.Kind≠8:=by simpa using I
  have rest:=rest (by omega);refine ZD (λe=>Zca (f:=⟨g.F_0,g.F_1,g.F_2,g.F_3,g.F_4,g.F_5⟩) a r v (by omega) (rest λh=>by rw[h]at e;cases e)) λ_=>?_;refine ZD (λe=>⟨by decide,by decide,by decide,by decide,by decide,by decide,Zal a r v (by omega) (rest λh=>by rw[h]at e;cases e)⟩) λ_=>?_;refine ZD (λe=>⟨by decide,by decide,ZcL a v (by omega) (rest λh=>by rw[h]at e;cases e)⟩) λ_=>?_;refine ZD (λe=>⟨by decide,by decide,ZcQ a r v (by omega) (rest λh=>by rw[h]at e;cases e)⟩) λ_=>?_;refine ZD (λe=>⟨by decide,by decide,ZcK a r v (by omega) (rest λh=>by rw[h]at e;cases e)⟩) λ_=>?_;refine ZD (λe=>⟨by decide,by decide,ZcC a r v (by omega) (rest λh=>by rw[h]at e;cases e)⟩) λ_=>?_;refine ZD (λe=>⟨by decide,by decide,ZcE a v (by omega) (rest λh=>by rw[h]at e;cases e)⟩) λ_=>?_;refine ZD (λe=>⟨by decide,by decide,ZFq a v (by omega) (rest λh=>by rw[h]at e;cases e)⟩) λ_=>?_;by_cases O:g.Kind=17
  .refine ⟨by decide,by decide,by decide,by decide,Zb1 a r v F λr h' a'=>A r h' ?_⟩;unfold ZBZ;rw[Xd C,Xd (by omega),Xd (by omega),Xd (by omega),Xd (by omega),Xd (by omega),Xd (by omega)];exact a'
  .exfalso;simp only[Wy] at*;omega
 ·have D:Zr k S n m B l:=⟨M,P,V⟩
  unfold ZMX at E;refine ZD (λe=>E _ _ ⟨D,?_⟩) λe=>?_
  .have e:isV g=false:=by simpa using e
   rw[e,WU,Ub];rfl
  ·have e:isV g=true:=by simpa using e
   dsimp only[ZM];refine D.ld (cd:=cP) (i:=4) λz=>⟨k.pf,rfl,?_⟩
   obtain⟨c,R,o2,w,W⟩:=D.firm;refine ZVq (o2.mem (by simp)) w (E _ _ ⟨D,?_⟩);rw[e,Wq];congr 1;cases j:ZVX (ZEc S.parties who) g.Kind with
   | false=>rw[Ub]
   | true=>
     rw[Bool.and_true];refine(XB ?_).symm;unfold ZVX at j;split at j
     .omega
     split at j
     .omega
     split at j
     .omega
     .simp only[Xf,WS]at j;omega
theorem ZKj(a:Zr k S n m h l)(j:∀ h',Zr k S n 0 h' l->K h'):ZS cSl ⟨k.b,14,none⟩ ⟨none,0,0⟩ h K:=by obtain⟨z,os,d,R,o,w,hl,f⟩:=a.outs;refine ZX (cd:=cSl) (i:=14) (x:=⟨none,0,0⟩) (vs':=ZBP k S {z with so:=⟨none,0,0⟩}) o rfl rfl (by show 14+1<=15;omega) λe o2=>?_;exact j e (f e l ⟨none,0,0⟩ Hp.emp [] 0 ((o2.pick [0,2] 3).emp.swap) (Own.nil _) (Xc _))
variable {Q:Sl->Hp->Prop}
theorem hDo(a:Zr k S n m h l)(r:ROk S)(B:n<=900000)(v:∀ s h',Zr k (doD S who seq g).1 (n+65) 100000 h' l->Q s h'):
 cx 52 [vp (sj k.b),vi who,vi seq,ZAk.enc g] cSl h Q:=by
 refine c52 (d:=g) ?_;dsimp only[ZM];have A:(doD S who seq g).1=(ZBZ (ZBU S) who g).1.d:=by unfold doD;split<;>rfl
 rw[A]at v;refine ZKj a λC w=>Zbs (g:=g) w r B (by omega) λe D f=>?_;refine ZI (λ_ h'=>Zr k (ZBZ (ZBU S) who g).1.d (n+65) 100000 h' l) ?_ λJ j=>ZD (λ_=>ZKj f λy a3=>ZCa (ns:=[seq,e]) rfl rfl a3 (by omega) λE a4=>j _ _ (a4.mono (Xc _) (by omega))) λ_=>j _ _ (f.mono (Xc _) (by omega));rintro _ y a3;exact a3.ld (cd:=cSl) (i:=14) λz=>⟨z.so,rfl,v _ _ a3⟩
theorem ZbF(a:Zr k S n m h l)(hn:n<=90000)(hq:∀ s h',Zr k S n 100000 h' l->Q s h'):cx 53 [vp (sj k.b)] cSl h Q:=by
 refine c53 ?_;dsimp only[ZM];refine ZKj a λh1 L=>L.ld (cd:=ci) (i:=2) λz=>⟨z.now,rfl,ZIi (.inl rfl) L λh2 F=>F.ld (cd:=cP) (i:=7) λ_=>⟨k.pd,rfl,F.ld (cd:=ci) (i:=2) λz=>⟨z.now,rfl,?_⟩⟩⟩
 obtain⟨c,R,o,w,W⟩:=F.dues;refine ZUU o w (by omega) λs d ys c3 M o3 j hy w3=>?_;have a3:Zr k S n 0 M (d::l):=W M c3 (d::l) n (Xc _) (o3.pick [0,2,1] 3) w3;have O:=j.1;refine Zc (λq h'=>∃ i:Nat,q=(i:Int)/\i<=ys.length/\Zr k S n i h' (d::l)) (λq=>ys.length-q.toNat) ⟨0,rfl,Xh _,a3⟩ ?_;rintro J q B A ⟨i,rfl,hi,a4⟩
 refine ZG (λab=>?_) λ_=>a4.ld (cd:=cSl) (i:=14) λz=>⟨z.so,rfl,hq _ _ (a4.drop.mono (Xc _) (by omega))⟩
 have I:i<ys.length:=by omega
 have a0:ys[i]?=some ys[i]:=Xa I;have E:d.sub B:=a4.sub (by simp);have kd:∀ {K:Int->Prop},(∀ y,K y)->Zb s.a s.len (i:Int) λa=>ZC ci ⟨(a.add ((i:Int).toNat*3)).block,(a.add ((i:Int).toNat*3)).off+1,none⟩ B K:=λH=>ZN j.row (Xb i) (by omega) λa f=>by rw[j.part_at f];exact Zd (cd:=ZAs) (cf:=ci) j.row E rfl f a0 rfl (k:=1) (y:=ys[i].Kind) rfl (H _)
 have P:∀ {K:Int->Prop} {a:Addr},s.a=some a->(∀ y,K y)->ZC ci ⟨(a.add ((i:Int).toNat*3)).block,(a.add ((i:Int).toNat*3)).off+2,none⟩ B K:=λf H=>by rw[j.part_at f];exact Zd (cd:=ZAs) (cf:=ci) j.row E rfl f a0 rfl (k:=2) (y:=ys[i].ID) rfl (H _)
 refine ZN j.row (Xb i) (by omega) λV f=>a4.ld (cd:=cP) (i:=6) λ_=>⟨k.pa,rfl,P f λv=>ZMF a4 (by omega) λx ok _=>?_⟩
 have fin:∀ h',Zr k S n (i+1) h' (d::l)->J (i64.wrap ((i:Int)+1)) h':=λh' a'=>by rw[Z1 (by omega)];exact A _ _ ⟨i+1,rfl,by omega,a'⟩ (by omega)
 have a5:Zr k S n (i+1) B (d::l):=a4.mono (Xc _) (by omega);refine ZI (λ_ h'=>Zr k S n (i+1) h' (d::l)) (λ_ h' a'=>fin h' a') λJ2 e=>?_;refine ZI (λ_ h'=>h'=B) ?_ λJ4 D=>kd λy=>ZD (λ_=>D _ _ rfl) λ_=>D _ _ rfl;rintro t X rfl;refine ZD (λ_=>ZYn (x:=x) a4 (by omega) (by omega) λY a6=>e _ _ a6) λ_=>?_;refine ZI (λ_ h'=>h'=X) ?_ λJ3 C=>kd λy=>ZD (λ_=>C _ _ rfl) λ_=>C _ _ rfl;rintro t2 Y rfl;refine ZD (λ_=>Zau (x:=x) a4 (by omega) (by omega) λZ G=>e _ _ G) λ_=>kd λy=>ZD (λ_=>?_) λ_=>e _ _ a5;exact ZN j.row (Xb i) (by omega) λV f=>a4.ld (cd:=cP) (i:=5) λ_=>⟨k.pq,rfl,P f λv=>ZR8 a4 (by omega) λ_ Z G=>e _ _ (G.mono (Xc _) (by omega))⟩
def ZJv(who:Int)(x:ZE):Bool:=x.Owner==who
def ZCA(ms l:List ZE):List ZE:=ms.foldl (λl x=>ZAE l x.ID) l
def ZKZ(who:Int)(b:List ZE):List ZE:=ZCA ((ZAa b 1++ZAa b 2).filter (ZJv who)) b
theorem ZUW{l:List ZE}(h:ZBE l){s:Int}{m:ZE}(w:m∈l)(y:m.Side≠s):ZAa (ZAE l m.ID) s=ZAa l s:=by
 have j:=(ZF0 h.ids w).filter λo=>o.Side==s;rw[Wh,Xd (by simpa using y)]at j;have v:∀ x∈l.filter (λo=>o.Side==s),x.Side=s:=λx e=>by simpa using (Wk.1 e).2
 have f:=ZNG (s:=s) (l:=(ZAE l m.ID).filter λo=>o.Side==s) λx e=>by simpa using (Wk.1 e).2
 exact ZHH v (h.seqs.sublist ((YN).map _)) (f.2.trans j.symm) f.1
theorem ZJa{w:List ZE}(v:ZBE w){s:Int}:∀ (f l:List ZE),l.Sublist w->(∀ m∈f,m∈w/\m.Side≠s)->ZAa (ZCA f l) s=ZAa l s
 | [],_,_,_=>rfl
 | m::f,l,hl,hms=>by
   have e:ZCA (m::f) l=ZCA f (ZAE l m.ID):=rfl;rw[e,ZJa v f _ ((ZAG _ _).trans hl) λx j=>hms x (Xq _ j)];obtain⟨z,A⟩:=hms m (by simp);by_cases y:m∈l
   .exact ZUW (v.sub hl) y A
   .have:ZAE l m.ID=l:=List.eraseP_of_forall_not λx j e=>y (by
     have:=ZRX v.ids (hl.subset j) z (by simpa using e);rw[<-this];exact j)
    rw[this]
theorem ZNQ(h:ZBE b):(ZAM who (b,os)).1=ZKZ who b:=by
 have j:ZAa (ZCA ((ZAa b 1).filter (ZJv who)) b) 2=ZAa b 2:=ZJa h _ b (Yy _) λm v=>by have:=ZAR.1 (Wk.1 v).1;exact⟨this.1,by rw[this.2];decide⟩
 have e:(ZAS who 1 (b,os)).1=ZCA ((ZAa b 1).filter (ZJv who)) b:=ZGY _ _;unfold ZAM ZKZ;have f:(ZAS who 2 (ZAS who 1 (b,os))).1=ZCA ((ZAa (ZAS who 1 (b,os)).1 2).filter (ZJv who)) (ZAS who 1 (b,os)).1:=ZGY _ _;rw[f,e,j,WE];unfold ZCA;rw[WX]
theorem ZTl(h:∀ b∈S.books,ZBE b):(ZAV S who).1.books=S.books.map (ZKZ who):=by
 obtain⟨v,j⟩:=ZOE (who:=who) (S:=S) (R:=λb z=>z=ZKZ who b) λb f os=>ZNQ (h b f);refine YX λi=>?_;rw[Yf];by_cases w:i<S.books.length
 .obtain ⟨b,f,e⟩:=j i _ (Xa (by omega));rw[f,Xa (by omega),e];rfl
 .rw [XP (by omega),XP (by omega)];rfl
theorem ZVD(h:∀ b∈S.books,ZBE b):Eq5 {S with books:=S.books.map (ZKZ who)} (ZAV S who).1:=by have k:=ZH5 S who;rw[k];exact⟨rfl,ZTl h,rfl,rfl,rfl⟩
theorem Zb3(a:Zr k S n m h l)(r:ROk S)(hn:n<=90000)(hq:∀ s h',Zr k (ZAV S who).1 n 100000 h' l->Q s h'):cx 54 [vp (sj k.b),vi who] cSl h Q:=by
 refine c54 ?_;dsimp only[ZM];have h4:=r.b4;refine ZKj a λh1 a1=>?_;refine Zc (λq h'=>∃ (i:Nat) (B:List (List ZE)),q=(i:Int)/\i<=S.books.length/\B.length=S.books.length/\(∀ j,B[j]?=(S.books[j]?).map λb=>if j<i then ZKZ who b else b)/\Zr k {S with books:=B} n (200*i) h' l) (λq=>S.books.length-q.toNat)
  ⟨0,S.books,rfl,Xh _,rfl,λj=>by simp,a1⟩ ?_
 rintro J q h2 Y ⟨i,B,rfl,hi,hB,Z,M⟩
 refine M.bk λs hs=>?_;have hs:s.len=B.length:=hs;refine ZG (λhlt=>?_) λhge=>?_
 ·have ac:i<S.books.length:=by omega
  have C:i<B.length:=by omega
  have hbi:B[i]=S.books[i]:=by have:=Z i;rw[Xa C,Xa ac,WD,Xd (Nat.lt_irrefl i)]at this;exact YV this
  have ab:=r.books _ (Xs ac);obtain⟨c,R,p,ad,o,w,hb,cl⟩:=M.book (i:=i) C;have w:ZGB p S.books[i] c:=by rw[<-hbi];exact w
  generalize hbe:S.books[i]=b at*;have hR:R.sub h2:=o.mem (by simp);refine ZJn hb hR C (ZJn hb hR C ?_);refine ZFY o (c:=c) (by simp) w ab λs4 d4 h4' o4 w4=>⟨?_,ZFY o4 (c:=c) (by simp) w ab λs5 d5 h5 o5 w5=>?_⟩
  .have:=hb.2.2 h4' (o4.mem (by simp));exact⟨this.1,this.2,trivial⟩
  have hl1:=ZBt b 1;have hl2:=ZBt b 2;have hl64:=ab.len;refine ZW (g:=d5) (s:=s4) (t:=s5) o5.swap rfl w4 (by decide) w5.row (o5.mem (by simp)) (XG (Xr _ (show _<=1000 by omega)) (by decide)) λH V n6 r6 h6 o6 w6=>?_;have hn6:n6=(ZAa b 1++ZAa b 2).length:=w6.1;have hys:(ZAa b 1++ZAa b 2).length<=128:=by rw[Xg];omega
  have hgl:ZKZ who b=ZCA ((ZAa b 1++ZAa b 2).filter (ZJv who)) b:=rfl;generalize ZAa b 1++ZAa b 2=ys at*;have a6:Zr k {S with books:=B.set i b} n (200*i) h6 (H::l):=cl h6 c (H::l) b (o6.pick [2,3,0] 4) w;refine Zc (λq h'=>∃ j:Nat,q=(j:Int)/\j<=ys.length/\Zr k {S with books:=B.set i (ZCA ((ys.take j).filter (ZJv who)) b)} n (200*i+j) h' (H::l)) (λq=>ys.length-q.toNat) ⟨0,rfl,Xh _,a6⟩ ?_;rintro J2 q h7 f ⟨j,rfl,hj,X⟩;refine ZG (λhlt2=>?_) λ_=>?_
  ·have ae:j<ys.length:=by omega
   have a0:ys[j]?=some ys[j]:=Xa ae;have E:(ys.take (j+1)).filter (ZJv who)=(ys.take j).filter (ZJv who)++if ZJv who ys[j]=true then [ys[j]] else []:=by rw[XH,a0,WE];simp[Wh]
   generalize ys[j]=y at a0 E;have hd6:H.sub h7:=X.sub (by simp);refine ZI (λ_ h'=>Zr k {S with books:=B.set i (ZCA ((ys.take (j+1)).filter (ZJv who)) b)} n (200*i+(j+1)) h' (H::l)) ?_ λJ3 hJ3=>?_
   .rintro _ h8 D;rw[Z1 (by omega)];exact f _ _ ⟨j+1,rfl,by omega,D⟩ (by omega)
   have L:∀ {K:Addr->Prop},(∀ a,V=some a->K a)->Zb V n6 (j:Int) K:=λI=>ZN (s:=⟨V,n6,r6⟩) w6.row (Xb j) (by omega) I;have pt:∀ {a:Addr} {g:Hp} {kk:Nat} {v:Int} {K:Int->Prop},V=some a->H.sub g->((ZF.enc y).cells.toList.drop kk).take 1=[vi v]->K v->ZC ci ⟨(a.add ((j:Int).toNat*6)).block,(a.add ((j:Int).toNat*6)).off+kk,none⟩ g K:=λ{a g kk v K} F hg hv I=>by rw[w6.part_at (s:=⟨V,n6,r6⟩) F];exact Zd (cd:=ZF) (cf:=ci) (s:=⟨V,n6,r6⟩) w6.row hg rfl F a0 rfl (k:=kk) (y:=v) hv I
   have p0:∀ {a:Addr} {g:Hp} {K:Int->Prop},V=some a->H.sub g->K y.ID->ZC ci ((a.add ((j:Int).toNat*6)).add 0) g K:=λ{a g K} F hg I=>Zd (cd:=ZF) (cf:=ci) (s:=⟨V,n6,r6⟩) w6.row hg rfl F a0 rfl (k:=0) (y:=y.ID) rfl I;refine L λD ha8=>pt ha8 hd6 (v:=y.Owner) rfl (ZD (λe=>?_) λe=>hJ3 _ _ ?_)
   ·have e:ZJv who y=true:=e;rw[Xe e]at E;refine L λa9 ha9=>?_;have hi7:i<(B.set i (ZCA ((ys.take j).filter (ZJv who)) b)).length:=by rw[Xp];exact C
    obtain⟨c7,R7,p7,ad7,o7,G,hb7,cl7⟩:=X.book (i:=i) hi7;have G:ZGB p7 (ZCA ((ys.take j).filter (ZJv who)) b) c7:=by rw[show ({S with books:=B.set i (ZCA ((ys.take j).filter (ZJv who)) b)}:DS).books[i]'hi7=ZCA ((ys.take j).filter (ZJv who)) b from VU hi7]at G;exact G
    have hlen7:(ZCA ((ys.take j).filter (ZJv who)) b).length<=64:=by
     have key:∀ (ms l:List ZE),(ZCA ms l).length<=l.length:=by
          intro ms;induction ms with
          | nil=>intro l;exact Xc _
          | cons x ms ih=>intro l;exact XG (ih _) (ZIc _ _)
     have:=key ((ys.take j).filter (ZJv who)) b;omega
    refine ZDj hb7 (o7.mem (by simp)) hi7 (p0 ha9 hd6 (ZEN o7 G (by omega) λ_ c8 h8 o8 w8=>?_));have a8':=cl7 h8 c8 (H::l) _ o8 w8;have A:H.sub h8:=a8'.sub (by simp);refine L λa11 ha11=>L λa12 ha12=>p0 ha11 A (pt ha12 A (v:=y.Left) rfl ?_);refine ZCa (ns:=[y.ID,y.Left]) rfl rfl a8' (by omega) λh9 a9'=>hJ3 _ _ (a9'.eq5 ⟨rfl,?_,rfl,rfl,rfl⟩);show B.set i _=(B.set i _).set i _;rw[WW,E];unfold ZCA;rw[WX];rfl
   .have e:¬ZJv who y=true:=by unfold ZJv;rw[e];simp
    rw[Xd e,Wl]at E;rw[E];exact X.mono (Xc _) (by omega)
  ·have hje:j=ys.length:=by omega
   subst hje;rw[Xo,<-hgl]at X;rw[Z1 (by omega)];refine Y _ _ ⟨i+1,B.set i (ZKZ who b),rfl,by omega,by rw[Xp];exact hB,λj=>?_,X.drop.mono (Xc _) (by omega)⟩ (by omega);by_cases hji:i=j
   .subst hji;rw[XM C,Xa ac,hbe,WD,Xe (Nat.lt_succ_self i)]
   ·rw[WZ hji,Z j];cases S.books[j]? with
    | none=>rfl
    | some x=>
      simp only[WD];by_cases P:j<i
      .rw [Xe P,Xe (by omega)]
      .rw [Xd P,Xd (by omega)]
 .have hie:i=S.books.length:=by omega
  subst hie;have hBe:B=S.books.map (ZKZ who):=YX λj=>by
   rw[Z j,Yf];by_cases hj:j<S.books.length
   .rw [Xa hj,WD,WD,Xe hj]
   .rw [XP (by omega)];rfl
  rw[hBe]at M;have M:Zr k (ZAV S who).1 n 1000 h2 l:=(M.mono (Xc _) (by omega)).eq5 (ZVD r.books);refine M.ld (cd:=cP) (i:=5) λ_=>⟨k.pq,rfl,?_⟩
  obtain⟨c,R,o,w,cl⟩:=M.quotes;refine ZYH o (c:=c) (by simp) w (by omega) λs7 d7 ys h7 o7 G hy=>?_;have X:Zr k (ZAV S who).1 n 1000 h7 (d7::l):=cl h7 c (d7::l) n (Xc _) (o7.pick [1,2,0] 3) w;have hlen:=G.1;refine Zc (λq h'=>∃ j:Nat,q=(j:Int)/\j<=ys.length/\Zr k (ZAV S who).1 n 1000 h' (d7::l)) (λq=>ys.length-q.toNat) ⟨0,rfl,Xh _,X⟩ ?_;rintro J2 q h8 f ⟨j,rfl,hj,D⟩;refine ZG (λhlt2=>?_) λ_=>D.ld (cd:=cSl) (i:=14) λz=>⟨z.so,rfl,hq _ _ (D.drop.mono (Xc _) (by omega))⟩
  have ae:j<ys.length:=by omega
  have a0:ys[j]?=some ys[j]:=Xa ae;have L:∀ {K:Addr->Prop},(∀ a,s7.a=some a->K a)->Zb s7.a s7.len (j:Int) K:=λI=>ZN G.row (Xb j) (by omega) I;have p0:∀ {a:Addr} {g:Hp} {K:Int->Prop},s7.a=some a->d7.sub g->(∀ v,K v)->ZC ci ((a.add ((j:Int).toNat*6)).add 0) g K:=λ{a g K} F hg I=>Zd (cd:=ZP) (cf:=ci) G.row hg rfl F a0 rfl (k:=0) (y:=ys[j].ID) rfl (I _);have A:d7.sub h8:=D.sub (by simp);refine ZI (λ_ h'=>Zr k (ZAV S who).1 n 1000 h' (d7::l)) ?_ λJ5 hJ5=>?_
  .rintro _ h9 a9;rw[Z1 (by omega)];exact f _ _ ⟨j+1,rfl,by omega,a9⟩ (by omega)
  refine L λa15 O=>D.ld (cd:=cP) (i:=6) λ_=>⟨k.pa,rfl,?_⟩
  rw[G.part_at O];refine Zd (cd:=ZP) (cf:=ci) G.row A rfl O a0 rfl (k:=1) (y:=ys[j].Ask) rfl (ZMF D (by omega) λx ok _=>?_);refine ZI (λ_ h'=>h'=h8) ?_ λJ6 hJ6=>ZD (λ_=>hJ6 _ _ rfl) λ_=>L λa F=>p0 F A λv=>hJ6 _ _ rfl;rintro t h9 rfl;refine ZD (λ_=>L λa F=>D.ld (cd:=cP) (i:=5) λ_=>⟨k.pq,rfl,p0 F A λv=>ZR8 D (by omega) λ_ h10 W=>L λM ha2=>W.ld (cd:=cP) (i:=7) λ_=>⟨k.pd,rfl,p0 ha2 (W.sub (by simp)) λv2=>ZGy W (by omega) λ_ h11 a11=>hJ5 _ _ a11⟩⟩) λ_=>hJ5 _ _ D
theorem ZFh(a:Zr k S n m h l)(r:ROk S)(f:ZXN S x os T)(P:n<=80000)(O:m<=100000){Q:PUnit->Hp->Prop}(E:∀ h',Zr k T (n+65) 100000 h' l->Q ⟨⟩ h'):cx 15 [vp (sj k.b),ZCG.enc x] (ZV []) h Q:=by
 refine c15 (d:=x) ?_;refine ZI (λ_ h'=>Zr k T (n+65) 100000 h' l) (λ_ h' a'=>E h' a') λJ y=>?_;unfold ZXN at f;refine ZD (λe=>?_) λB=>?_
 .have e:x.Kind=1:=by simpa using e
  rw[Xe e]at f;exact hDo (g:=ZXP x) a r (by omega) λs h' a'=>y _ _ (by rw[f.1];exact a')
 rw[Xd (by simpa using B)]at f;refine ZD (λe=>?_) λI=>ZD (λe=>?_) λz=>?_
 .have e:x.Kind=2:=by simpa using e
  rw[Xd (by omega)]at f;exact ZbF a (by omega) λs h' a'=>y _ _ ((a'.mono (by omega) (Xc _)).eq5 ⟨f.1.bonds,f.1.books,f.1.parties,f.1.order,f.1.seq⟩)
 .have e:x.Kind=3:=by simpa using e
  rw[Xe e]at f;exact Zb3 a r (by omega) λs h' a'=>y _ _ (by rw[f.1];exact a'.mono (by omega) (Xc _))
 .have z:x.Kind≠3:=by simpa using z
  rw[Xd z]at f;refine Zc (λq h'=>∃ (j m':Nat),q=(j:Int)/\j<=40/\Zr k S n m' h' l/\(m'=m\/m'=100000)) (λq=>40-q.toNat) ⟨0,m,rfl,Xh _,a,.inl rfl⟩ ?_;rintro G q C v ⟨j,m',rfl,M,A,D⟩
  refine ZI (λt h'=>h'=C/\(t=true->j<40)) ?_ λH w=>ZD (λ_=>w _ _ ⟨rfl,λh=>by have:=Ww h;omega⟩) λ_=>w _ _ ⟨rfl,λh=>by cases h⟩;rintro t L ⟨rfl,F⟩;refine ZD (λe=>?_) λ_=>?_
  .have:=F e;refine ZbF A (by omega) λs h' a'=>?_;rw[Z1 (by omega)];exact v _ _ ⟨j+1,100000,rfl,by omega,a',.inr rfl⟩ (by omega)
  .exact y _ _ ((A.mono (by omega) (by omega)).eq5 ⟨f.1.bonds,f.1.books,f.1.parties,f.1.order,f.1.seq⟩)
def ZcM(ps:List Z8)(asks:Int)(i:Nat):Bool:=(ZCe .u64 (ZBK .u64 asks (u64.wrap (i:Int))) 1==1)&&(decide (ps.length<=i)||((ps[i]?).map Z8.Role).getD 0 != 2)
def ZTf(ps:List Z8)(x:Z8):Bool:=
 decide (1<=x.Role/\x.Role<=3/\(x.Role=1\/x.Asks=0)/\(x.Role=2\/x.Cap=0)/\0<=x.Cap/\x.Cap<=1099511627776)&&(List.range 64).all λi=>!ZcM ps x.Asks i
def ZGs(bs:List Bond)(ps:List Z8)(look beat:Int):Bool:=
 decide (1<=bs.length/\bs.length<=4/\1<=ps.length/\ps.length<=8/\1<=look/\look<=1000/\1<=beat/\beat<=1000)&&(bs.all ZIt&&ps.all (ZTf ps))
theorem ZVU(w:Int):ZGs (ZBd w).1 (ZBd w).2.1 (ZBd w).2.2.1 (ZBd w).2.2.2=true:=by
 unfold ZBd;split
 .kernel_rfl
 split
 .kernel_rfl
 split
 .kernel_rfl
 .kernel_rfl
variable {Q:Bool->Hp->Prop}
theorem ZQj{b:Bond}(w:ZIt b=true)(D:Q true h):cx 125 [Zs.enc b] cB h Q:=by refine c125 (d:=b) ?_;unfold ZIt inB at w;simp only[Xf,Xw]at w;obtain⟨⟨y,z,A⟩,⟨h4,h5,h6⟩,h7⟩:=w;have f:∀ {n a b:Int} {K:Bool->Hp->Prop},a<=n/\n<=b->K true h->cx 198 [vi n,vi a,vi b] cB h K:=λe B=>ZTX (by rw[XB e];exact B);refine ZI (λt h'=>h'=h/\t=false) ?_ λJ v=>f y (f z (f A (v _ _ ⟨rfl,rfl⟩)));rintro t h' ⟨rfl,rfl⟩;refine ZU rfl ?_;refine ZI (λt j=>j=h'/\t=false) ?_ λJ v=>f h4 (f h5 (f h6 (v _ _ ⟨rfl,rfl⟩)));rintro t j ⟨rfl,rfl⟩;have E:=Int.tmod_nonneg b.Lot (show 0<=b.Max by omega);have C:=Int.tmod_lt_of_pos b.Max (show 0<b.Lot by omega);refine ZU rfl ⟨by omega,?_⟩;rw[w64 (by omega) (by omega),XB h7];exact D
variable {g:Hp}
theorem ZSA{x:Z8}(H:g.sub h)(r:Row Zu g s ps)(hl:ps.length<=8)(C:ZTf ps x=true)(M:Q true h):cx 126 [Zu.enc x,Value.slice s.a s.len s.cap] cB h Q:=by
 refine c126 (d:=x) (s:=s) ?_;unfold ZTf at C;rw[Xf,Xw]at C;obtain⟨⟨P,R,E,F,V,W⟩,hall⟩:=C;have D:=r.1;refine ZI (λt h'=>h'=h/\t=false) ?_ λJ G=>?_
 .rintro t h' ⟨rfl,rfl⟩;refine ZU rfl ?_;refine Zc (λq f=>f=h'/\∃ i:Nat,q=(i:Int)/\i<=64) (λq=>64-q.toNat) ⟨rfl,0,rfl,Xh _⟩ ?_;rintro J q z j ⟨rfl,i,rfl,X⟩
  refine ZG (λL=>?_) λ_=>M;have v:=Wn.1 hall i (List.mem_range.2 (by omega));have v:ZcM ps x.Asks i=false:=by simpa using v
  unfold ZcM at v;refine ZI (λt f=>f=z/\t=false) ?_ λO w=>⟨by rw[ZBb];omega,ZD (λe=>?_) λ_=>w _ _ ⟨rfl,rfl⟩⟩
  .rintro t f ⟨rfl,rfl⟩;refine ZU rfl ?_;rw[Z1 (by omega)];exact j _ _ ⟨rfl,i+1,rfl,by omega⟩ (by omega)
  rw[e,Wq,WP,Wc]at v;have B:i<ps.length:=by omega
  have a0:ps[i]?=some ps[i]:=Xa B;refine ZG (λI=>by omega) λ_=>ZN r (Xb i) (by omega) λa A=>?_;refine Zd (cd:=Zu) (cf:=ci) r H rfl A a0 rfl (k:=0) (y:=ps[i].Role) rfl (w _ _ ⟨rfl,?_⟩);rw[a0]at v;exact v.2
 ·have cap:ZB (decide (x.Cap<0)) (J true h) (J (decide (x.Cap>1099511627776)) h):=ZG (λe=>by omega) λ_=>G _ _ ⟨rfl,Xj (by omega)⟩
  have k:ZB (x.Role != 2) (ZB (x.Cap != 0) (J true h) (ZB (decide (x.Cap<0)) (J true h) (J (decide (x.Cap>1099511627776)) h))) (ZB (decide (x.Cap<0)) (J true h) (J (decide (x.Cap>1099511627776)) h)):=
   ZD (λe=>ZU (by rw[show x.Cap=0 from F.resolve_left (by simpa using e)];rfl) cap) λ_=>cap
  refine ZG (λe=>by omega) λ_=>ZG (λe=>by omega) λ_=>ZD (λe=>ZU ?_ k) λ_=>k;have e:x.Role≠1:=by simpa using e
  have:x.Asks=0:=E.resolve_left e;rw[this];rfl
theorem ZQ3{look:Int}(L:gb.sub h)(rb:Row Zs gb sb bs)(F:gp.sub h)(A:Row Zu gp sp ps)(E:ZGs bs ps look beat=true)(M:Q true h):cx 74 [ZAK.enc ⟨sb,sp,look,beat⟩] cB h Q:=by
 refine c74 (d:=⟨sb,sp,look,beat⟩) ?_;dsimp only;unfold ZGs at E;rw[Xf,Xf,Xw]at E;obtain⟨⟨O,P,R,H,V,W,X,Y⟩,hB,hP⟩:=E;have lb:=rb.1;have lp:=A.1;refine ZI (λt h'=>h'=h/\t=false) ?_ λJ I=>ZG (λe=>by omega) λ_=>ZG (λe=>by omega) λ_=>ZG (λe=>by omega) λ_=>I _ _ ⟨rfl,Xj (by omega)⟩;rintro t h' ⟨rfl,rfl⟩;refine ZU rfl ?_;refine Zc (λq w=>w=h'/\∃ i:Nat,q=(i:Int)/\i<=bs.length) (λq=>bs.length-q.toNat) ⟨rfl,0,rfl,Xh _⟩ ?_;rintro J q B v ⟨rfl,i,rfl,Z⟩
 refine ZG (λD=>?_) λ_=>?_
 .have y:i<bs.length:=by omega
  refine ZN rb (Xb i) (by omega) λa C=>ZQ rb L rfl C (i:=i) (Xa y) rfl (ZQj (Wn.1 hB _ (Xs y)) (ZU rfl ?_));rw[Z1 (by omega)];exact v _ _ ⟨rfl,i+1,rfl,by omega⟩ (by omega)
 refine Zc (λq w=>w=B/\∃ i:Nat,q=(i:Int)/\i<=ps.length) (λq=>ps.length-q.toNat) ⟨rfl,0,rfl,Xh _⟩ ?_;rintro J q G f ⟨rfl,j,rfl,hj⟩;refine ZG (λD=>?_) λ_=>ZG (λ_=>ZG (λ_=>ZG (λ_=>by rw[XB (by omega)];exact M) λe=>by omega) λe=>by omega) λe=>by omega
 have z:j<ps.length:=by omega
 refine ZN A (Xb j) (by omega) λa C=>ZQ A F rfl C (i:=j) (Xa z) rfl (ZSA F A H (Wn.1 hP _ (Xs z)) (ZU rfl ?_));rw[Z1 (by omega)];exact f _ _ ⟨rfl,j+1,rfl,by omega⟩ (by omega)
theorem ZEu:∀ n:Nat,Z0 n [vi 0]=ZO ci (List.replicate n (0:Int))
 | 0=>rfl
 | n+1=>by rw[Ud,ZAc,<-ZEu n];rfl
variable {Q:Option Addr->Hp->Prop}
theorem ZM3{look:Int}(o:On h l)(B:gb∈l)(rb:Row Zs gb sb bs)(y:gp∈l)(v:Row Zu gp sp ps)(z:ZGs bs ps look beat=true)(D:∀ b c h',On h' (c::l)->ZUZ (sj b) ps c->Q (sj b) h'):cx 42 [ZAK.enc ⟨sb,sp,look,beat⟩] cP h Q:=by
 refine c42 (d:=⟨sb,sp,look,beat⟩) ?_;have e:=z;unfold ZGs at e;rw[Xf,Xw]at e;have E:=v.1;have C:ps.length<=8:=e.1.2.2.2.1;refine ZQ3 (o.mem B) rb (o.mem y) v z (ZU rfl (ZH o λk1 O A=>?_));refine ZW (g:=gp) (s:=⟨sj k1,0,0⟩) (t:=sp) (xs:=[]) A rfl ZEI (by decide) v (A.mem (by simp[y])) (by unfold ZAW;simp;omega) λc2 q n r P o2 M=>?_;refine⟨by omega,by omega,by dsimp only;omega,by dsimp only;omega,?_⟩;refine ZH o2 λf R F=>ZH F λj w G=>?_;have H:On w ([ob j [Value.slice q n r,Value.slice (sj f) ((sp.len:Int)).toNat ((sp.len:Int)).toNat] 183,c2,ob f (Z0 ((sp.len:Int)).toNat [vi 0]) 2]++l):=G.pick [0,2,1] 3;obtain⟨I,L⟩:=On.joined H;refine D j _ w I ⟨j,⟨q,n,r⟩,⟨sj f,((sp.len:Int)).toNat,((sp.len:Int)).toNat⟩,c2,_,List.replicate sp.len 0,rfl,L,M,ZAx (cd:=ci) (rest:=[]) ?_ ?_ ?_,?_⟩
 .rw [Wl,XD,ZEu]
 .rw [XX,XD]
 .rw [XX,XD];rfl
 .rw [XX,E]
theorem ZKy.push(w:ZKy nb ss ds){d:Hp}(A:Own ci d s r)(C:r.length=nb):ZKy nb (ss++[s]) (ds++[d]):=by
 obtain⟨v,z⟩:=w;refine⟨by simp[v],λi D y e f=>?_⟩;by_cases B:i<ss.length
 .rw [XR B]at e;rw[XR (by omega)]at f;exact z i D y e f
 .have j:i=ss.length:=by have:=(Xi.1 e).1;simp at this;omega
  subst j;rw[XJ (Xc _),Wz]at e;rw[XJ (by omega),v,Wz]at f;cases e;cases f;exact⟨r,A,C⟩
theorem ZFV.push{ps:List (Option Addr)}{bs:List (List ZE)}(w:ZFV ps bs cs)(E:ZGB p b c):ZFV (ps++[p]) (bs++[b]) (cs++[c]):=by
 obtain⟨z,A,D⟩:=w;refine⟨by simp[z],by simp[A],λj F B C f e v=>?_⟩;by_cases G:j<bs.length
 .rw [XR (by omega)]at f e v;exact D j F B C f e v
 .have y:j=bs.length:=by have:=(Xi.1 e).1;simp at this;omega
  subst y;rw[XJ (by omega)]at f e v;rw[z,Wz]at f;rw[Wz]at e;rw[A,Wz]at v;cases f;cases e;cases v;exact E
theorem ZQD(o:On h l)(Z:1<=np/\np<=8)(h2:1<=nb/\nb<=4)(V:∀ p c h',On h' (c::l)->ZZf p np nb c->Q p h'):cx 43 [vi (np:Int),vi (nb:Int)] cP h Q:=by
 refine c43 ?_;refine ZI (λt h'=>h'=h/\t=false) ?_ λJ O=>ZG (λe=>by omega) λ_=>ZG (λe=>by omega) λ_=>ZG (λe=>by omega) λ_=>O _ _ ⟨rfl,Xj (by omega)⟩;rintro t h' ⟨rfl,rfl⟩;refine ZU rfl ⟨by omega,by omega,by omega,by omega,ZH o λk1 L W=>ZH W λA M o2=>?_⟩;rw[XD,ZEu]at o2;refine Zc (λz h'=>∃ (i:Nat) (j:Sl) (dB:Hp) (ss:List Sl) (ds:List Hp),z=(i:Int)/\i<=np/\ss.length=i/\On h' (ob A [sv j,Value.slice (sj k1) np np] 185::dB::(ds++(ob k1 (ZO ci (List.replicate np (0:Int))) 2::l)))/\Own cSl dB j ss/\ZKy nb ss ds) (λz=>np-z.toNat)
  ⟨0,⟨none,0,0⟩,Hp.emp,[],[],rfl,Xh _,rfl,o2.emp.swap,Own.nil _,rfl,λi s d e=>by cases e⟩ ?_
 rintro J z F f ⟨i,j,dB,ss,ds,rfl,hi,v,C,G,H⟩
 refine ZG (λR=>?_) λP=>?_
 .refine ZL (cd:=cSl) (x:=j) C 0 rfl rfl ⟨by omega,by omega,by omega,by omega,ZH C λB h4 D=>ZH D λk5 h5 w=>?_⟩;rw[XD,ZEu]at w;refine ZBW (cd:=cSl) (x:=(⟨sj B,nb,nb⟩:Sl)) (w.pick [0,3,1,2] 4) G rfl (by decide) (by decide) (by omega) λI q n r h6 E Y=>?_;refine ZX (cd:=cSl) (i:=0) (x:=⟨q,n,r⟩) (vs':=[sv ⟨q,n,r⟩,Value.slice (sj k1) np np]) (E.pick [2,0,1] 3) rfl rfl (by show 0+1<=2;omega) λh7 X=>?_;rw[Z1 (by omega)];refine f _ _ ⟨i+1,⟨q,n,r⟩,I,ss++[⟨sj B,nb,nb⟩],ds++[ob B (ZO ci (List.replicate nb (0:Int))) 2],rfl,by omega,by simp[v],?_,Y,H.push (ZAx (cd:=ci) (rest:=[]) (by rw[Wl]) (XX).symm (by rw[XX];rfl)) (by simp)⟩ (by omega);refine X.perm (XQ _ (XQ _ ?_));show (_::(ds++_)).Perm ((ds++[_])++_);rw[Xu];exact Wg.symm
 .have y:i=np:=by omega
  subst y;have D:On F ((ob A [sv j,Value.slice (sj k1) i i] 185::dB::ob k1 (ZO ci (List.replicate i (0:Int))) 2::ds)++l):=C.perm (XQ _ (XQ _ Wg));obtain⟨w,E⟩:=On.joined D;exact V _ _ F w ⟨A,j,⟨sj k1,i,i⟩,dB,_,ss,ds,List.replicate i 0,rfl,E,G,ZAx (cd:=ci) (rest:=[]) (by rw[Wl]) (XX).symm (by rw[XX];rfl),H,v,by simp⟩
theorem ZNU{look:Int}(o:On h l)(hb:gb∈l)(rb:Row Zs gb sb bs)(hp:gp∈l)(rp:Row Zu gp sp ps)(hr:ZGs bs ps look beat=true)(hq:∀ k h',Zr k (ZCj bs ps look beat) 0 0 h' l->Q (sj k.b) h'):cx 10 [ZAK.enc ⟨sb,sp,look,beat⟩] Go.Eng.cP h Q:=by
 refine c10 (d:=⟨sb,sp,look,beat⟩) ?_;have C:=hr;unfold ZGs at C;rw[Xf,Xw]at C;obtain⟨⟨g1,g2,g3,g4,_⟩,_⟩:=C;have lb:=rb.1;have lp:=rp.1;refine ZM3 o hb rb hp rp hr λbF cF h1 o1 wF=>ZU rfl (ZH o1 λk2 h2 o2=>?_);refine ZW (g:=gb) (s:=⟨sj k2,0,0⟩) (t:=sb) (xs:=[]) o2 rfl ZEI (by decide) rb (o2.mem (by simp[hb])) (by unfold ZAW;simp;omega) λdB q n r h3 o3 wB=>?_;rw[XV]at wB;dsimp only;rw[lp,lb];refine ZQD o3 ⟨g3,g4⟩ ⟨g1,g2⟩ λpO I h4 o4 wO=>?_;refine ZH o4 λk5 h5 Y=>?_;obtain⟨L,Y,wQ⟩:=Zv.new (cd:=ZP) Y;refine ZH Y λk6 h6 Z=>?_;obtain⟨G,Z,wA⟩:=Zv.new (cd:=Zx) Z;refine ZH Z λk7 h7 o7=>?_;obtain⟨H,o7,wD⟩:=Zv.new (cd:=ZAs) o7;refine ZH o7 λk8 h8 o8=>?_;obtain⟨M,o8,wT⟩:=Zv.new (cd:=Zl) o8;let kk:Nat->Sl->RK:=λb sk=>⟨b,⟨q,n,r⟩,sk,sj bF,sj k5,sj k6,sj k7,pO,sj k8⟩
 let z0:RN:=⟨look,0,0,0,⟨none,0,0⟩⟩
 refine ZH (vs:=ZBP (kk 0 ⟨none,0,0⟩) (ZCj bs ps look beat) z0) o8 λv h9 o9=>?_;refine Zc (λz h'=>∃ (j:Nat) (w:Sl) (A:Hp) (ks:List (Option Addr)) (cs:List Hp),z=(j:Int)/\j<=bs.length/\ks.length=j/\On h' (ob v (ZBP (kk v w) (ZCj bs ps look beat) z0) 43::A::(cs++(M::H::G::L::I::dB::cF::l)))/\Own Go.Eng.cP A w ks/\ZFV ks (List.replicate j []) cs) (λz=>bs.length-z.toNat)
  ⟨0,⟨none,0,0⟩,Hp.emp,[],[],rfl,Xh _,rfl,o9.emp.swap,Own.nil _,⟨rfl,rfl,λi p b c h=>by cases h⟩⟩ ?_
 rintro J z B y ⟨j,w,A,ks,cs,rfl,hj,W,D,wK,wb⟩
 refine ZG (λhlt=>?_) λhge=>?_
 .have hj':j<bs.length:=by omega
  refine ZL (cd:=cSl) (x:=w) D 0 (i:=3) rfl rfl (ZH D λO h11 f=>?_);obtain⟨c11,f,w11⟩:=Zv.new (cd:=ZF) f;refine ZH f λk12 h12 e=>?_;refine ZBW (cd:=Go.Eng.cP) (x:=sj O) (e.pick [0,3,2,1] 4) wK rfl (by decide) (by decide) (by omega) λP p X m h13 E w13=>?_;refine ZX (cd:=cSl) (i:=3) (x:=⟨p,X,m⟩) (vs':=ZBP (kk v ⟨p,X,m⟩) (ZCj bs ps look beat) z0) E.swap rfl rfl (by show 3+1<=15;omega) λh14 F=>?_;rw[Z1 (by omega)];refine y _ _ ⟨j+1,⟨p,X,m⟩,P,ks++[sj O],cs++[c11],rfl,by omega,by simp[W],?_,w13,?_⟩ (by omega)
  .refine F.perm (XQ _ (XQ _ ?_));show (c11::(cs++_)).Perm ((cs++[c11])++_);rw[Xu];exact Wg.symm
  .rw [VW];exact wb.push w11
 .have V:j=bs.length:=by omega
  subst V;have f:On B (ob v (ZBP (kk v w) (ZCj bs ps look beat) z0) 43::A::M::H::G::L::I::dB::cF::(cs++l)):=by refine D.perm (XQ _ (XQ _ ?_));exact YA cs [M,H,G,L,I,dB,cF] l
  have e:=(f.pick [0,7,1,8,5,4,3,6,2] 9)
  have e:On B (Hp.emp::ob v (ZBP (kk v w) (ZCj bs ps look beat) z0) 43::dB::A::cF::L::G::H::I::M::(cs++l)):=e.emp;have e:=e.pick [1,2,3,0] 4;obtain⟨E,F⟩:=On.joined (cs:=ob v (ZBP (kk v w) (ZCj bs ps look beat) z0) 43::dB::A::Hp.emp::cF::L::G::H::I::M::cs) (l:=l) e;have R:(ZCj bs ps look beat).books.length=bs.length:=XX;refine hq (kk v w) B ⟨_,E,z0,[],dB,A,Hp.emp,cF,L,G,H,I,M,ks,cs,F,wB,wK,⟨Own.nil _,Xc _⟩,wF,⟨[],wQ,Xc _⟩,⟨[],wA,Xc _,λa ha=>by cases ha⟩,⟨[],wD,Xc _⟩,?_,⟨[],wT,Xc _⟩,wb⟩;rw[R];exact wO
def ZcI(S:DS)(t:Z2):Prop:=t.Ask=0\/∃ a∈S.asks,a.ID=t.Ask/\t.Price<=1000000/\t.Qty=a.Qty/\a.Qty<=1000000/\ZLW (Zj S a.Bond) a.Side t.Price t.Qty=0
def TrD(S T:DS):Prop:=∃ ts,T.trades=S.trades++ts/\∀ t∈ts,ZcI S t
theorem TrD.same(h:T.trades=S.trades):TrD S T:=⟨[],by simp[h],by simp⟩
def Tr0(S T:DS):Prop:=∃ ts,T.trades=S.trades++ts/\∀ t∈ts,t.Ask=0
theorem Tr0.d(h:Tr0 S T)(v:U.trades=T.trades):TrD S U:=by obtain⟨w,e,f⟩:=h;exact⟨w,v.trans e,λt j=>.inl (f t j)⟩
theorem ZRM(who n:Int)(o:ZE):∀ (fs:List ZIo) (st:DC×Int),Tr0 st.1.d (fs.foldl (ZCR who n o) st).1.d
 | [],st=>⟨[],by simp,by simp⟩
 | f::fs,st=>by
   obtain⟨j,v,w⟩:=ZRM who n o fs (ZCR who n o st f);refine⟨ZKi st.1.d.trades (ZBF st.1.d o.Side who f.MakerParty (ZNM n f))::j,?_,λt e=>?_⟩
   .rw [Xy,v];show (st.1.d.trades++[_])++j=_;rw[Xu];rfl
   .rcases Xm.1 e with rfl|e
    .rfl
    .exact w t e
theorem ZOQ(c:DC)(who n:Int)(o:ZE)(how:Int):Tr0 c.d (ZAJ c who n o how).1.d:=by
 unfold ZAJ;generalize doV (Zj c.d n) (ZGi c o) how=r;split
 .exact ⟨[],by simp[ZAb],by simp⟩
 .obtain ⟨v,e,f⟩:=ZRM who n o r.2.1 (r.2.2.1.foldl (ZDB who) (ZKR c n r.1),o.Left);have j:=(ZIP who r.2.2.1 (ZKR c n r.1)).1;dsimp only at e;rw[j]at e;refine⟨v,?_,f⟩;dsimp only;split
  .exact e
  .exact e
theorem ZWq(w:WOk N S)(who:Int)(m:Msg):TrD S (ZDg (ZBU S) who m).1.d:=by
 unfold ZDg;cases j:getA (ZBU S).d.asks m.F_0 with
 | none=>exact TrD.same rfl
 | some a=>
   dsimp only;have f:a∈S.asks:=Yq j;split
   .exact TrD.same rfl
   split
   .exact TrD.same rfl
   split
   .unfold ZAQ;split<;>exact TrD.same rfl
   split
   .exact TrD.same rfl
   ·rename_i e;have e:ZCQ S a (ZCD S a)=0:=WF.1 e;split
    .exact TrD.same rfl
    .refine ⟨[ZKi S.trades (ZBF S a.Side a.Client (ZCD S a).Dealer ⟨0,a.Bond,0,0,(ZCD S a).Price,a.Qty,a.ID,0⟩)],rfl,λt h=>?_⟩;rw[Xl.1 h];have v:(ZCD S a).Price<=1000000:=by
      unfold ZCD ZKg;cases y:getQ S.quotes a.Hit with
      | none=>decide
      | some q=>exact(w.qi q (Yq y)).2.2.1
     unfold ZCQ at e;split at e
     .cases e
     .exact .inr ⟨a,f,rfl,v,rfl,(w.ai a f).2.2.2.2.2.1,e⟩
theorem ZVn(c:DC)(who:Int)(m:Msg):TrD c.d (ZCt c who m).1.d:=by
 have h:=ZOQ c who m.F_0 (ZAh c who m) m.F_4;unfold ZCt;generalize ZAJ c who m.F_0 (ZAh c who m) m.F_4=r at*;split
 .exact TrD.same rfl
 split
 .exact TrD.same rfl
 split
 .exact TrD.same rfl
 split
 .exact h.d rfl
 .exact h.d rfl
theorem ZRE(c:DC)(who n:Int)(o:ZE)(p q:Int):TrD c.d (ZCN c who n o p q).1.d:=by
 have h:=ZOQ {c with d:=ZAb c.d n (ZAE (Zj c.d n) o.ID)} who n (ZA0 o p q) 0;unfold ZCN;generalize ZAJ {c with d:=ZAb c.d n (ZAE (Zj c.d n) o.ID)} who n (ZA0 o p q) 0=r at*;split
 .exact TrD.same rfl
 split
 .exact TrD.same rfl
 .obtain ⟨v,e,f⟩:=h;exact⟨v,e,λt j=>.inl (f t j)⟩
theorem ZSG(S:DS)(who:Int)(m:Msg):TrD S (ZAw (ZBU S) who m).1.d:=by
 unfold ZAw;split
 .exact ZVn (ZBU S) who m
 ·cases ZAT (ZBU S).d m.F_0 with
  | none=>exact TrD.same rfl
  | some n=>
    dsimp only;split
    .exact TrD.same rfl
    split
    .exact ZRE {ZBU S with id:=m.F_0} who n _ _ _
    .exact TrD.same rfl
theorem ZZN(c:DC)(who:Int)(m:Msg):(ZGK c who m).1.d.trades=c.d.trades:=by
 have h:∀ a q,(ZMV c a q).1.d.trades=c.d.trades:=λa q=>by unfold ZMV;(repeat' split)<;>rfl
 unfold ZGK;(repeat' split)<;>first|rfl|exact h _ _
theorem ZTB(c:DC)(who:Int)(m:Msg):(ZCM c who m).1.d.trades=c.d.trades:=by unfold ZCM ZIM;(repeat' split)<;>rfl
theorem ZQf(c:DC)(who:Int)(m:Msg):(ZBS c who m).1.d.trades=c.d.trades:=by
 unfold ZBS;(repeat' split)<;>first|rfl|skip
 have h:=(ZEq (Z6 c who m) (List.range c.d.parties.length) (ZN3 c (Z6 c who m))).1;dsimp only;rw[h];rfl
theorem ZQ8(c:DC)(who id n e:Int):(ZGh c who id).1.d.trades=c.d.trades/\(ZFz c n e).1.d.trades=c.d.trades:=by
 unfold ZGh ZFz;constructor
 .split<;>rfl
 ·(repeat' split)<;>rfl
theorem ZYQ(w:WOk N S)(who:Int)(m:Msg):TrD S (ZBZ (ZBU S) who m).1.d:=by
 unfold ZBZ;split
 .exact TrD.same rfl
 split
 .exact ZSG S who m
 split
 .exact TrD.same (ZTB (ZBU S) who m)
 split
 .exact TrD.same (ZZN (ZBU S) who m)
 split
 .exact ZWq w who m
 split
 .exact TrD.same (ZQ8 (ZBU S) who m.F_0 0 0).1
 split
 .exact TrD.same (ZQf (ZBU S) who m)
 .exact TrD.same (ZQ8 (ZBU S) who 0 m.F_0 m.F_1).2
theorem ZZw(w:WOk N S)(r:ZXN S x os T):TrD S T:=by
 unfold ZXN at r;split at r
 .rw [r.1];have:=ZYQ w x.Who (ZXP x);unfold doD;split<;>exact this
 split at r
 .rw [r.1];exact TrD.same (by rw[ZH5])
 .exact TrD.same r.1.trades
theorem ZYw(h:Srt Ask.ID xs){b:Ask}(j:a∈xs)(v:b∈xs)(e:a.ID=b.ID):a=b:=by
 induction xs with
 | nil=>cases j
 | cons x xs w=>
   have f:=Wm.1 h;rcases Xm.1 j with h1|h1<;>rcases Xm.1 v with h2|h2
   .rw [h1,h2]
   .have:=f.1 b h2;rw[h1]at e;omega
   .have:=f.1 a h1;rw[h2]at e;omega
   .exact w f.2 h1 h2
def ZDA(S:DS)(a:Ask):Int×Bool:=ZDe (Zj S a.Bond) (i64.wrap (3-a.Side)) a.Qty
theorem ZQU(D:Srt Ask.ID S.asks)(A:∀ b∈S.books,ZBE b)(h:ZcI S t)(z:t.Ask≠0)(B:a∈S.asks)(e:a.ID=t.Ask)(j:(ZDA S a).2=true):
 (0<=t.Price/\t.Price<=1000000)/\(0<=t.Qty/\t.Qty<=1000000)/\(a.Side=1->t.Price*t.Qty<=(ZDA S a).1)/\(a.Side=2->(ZDA S a).1<=t.Price*t.Qty):=by
 obtain⟨b,C,k1,F,G,H,I⟩:=h.resolve_left z;have:b=a:=ZYw D C B (k1.trans e.symm);subst this;have f:ZBE (Zj S b.Bond):=by
  unfold Zj;cases E:S.books[b.Bond.toNat]? with
  | none=>exact ZBE.nil
  | some x=>exact A x (Xn E)
 obtain⟨L,M,y,v⟩:=ZPU f I;unfold ZDA at j⊢;have w:i64.wrap (3-b.Side)=3-b.Side:=w64 (by omega) (by omega);rw[w]at j⊢;rw[G]at y v⊢;exact⟨⟨by omega,F⟩,⟨by omega,H⟩,v j⟩
theorem Zaq(a:Zr k S n m h l)(f:i<S.books.length)(v:ZBE S.books[i]){Q:ZBL×Bool->Hp->Prop}(y:∀ h',Zr k S n m h' l->Q (⟨0,(ZDe S.books[i] sd qty).1⟩,(ZDe S.books[i] sd qty).2) h'):
 ZC cSl ⟨k.b,3,none⟩ h λs=>Zb s.a s.len (i:Int) λa=>ZC cP (a.add ((i:Int).toNat*1)) h λp=>cx 13 [vp p,vi sd,vi qty] (ZV [Zm,cB]) h Q:=by
 obtain⟨c,R,q,A,o,w,e,j⟩:=a.book f;refine ZDj e (o.mem (by simp)) f (ZK2 o (by simp) w v λh' z=>y h' ?_);have:=j h' c l _ z w;rw[WH]at this;exact this
def Zcb(kd:DK)(kr:RK)(S:DS)(n:Nat)(h:Hp)(l:List Hp):Prop:=∃ D R m,On h (D::R::l)/\ZAA kd S D/\IsR kr S n m R/\m<=100000
theorem ZPN{xs:List ZDL}(h1:Row ZCG g p1 xs)(h2:∀ x∈xs,ZTz x):F3 p0 p1 g (Lawful g):=by
 unfold F3;have hpl:=h1.1;refine ZG (λ_=>⟨rfl,Hp.sub_refl _⟩) λh120=>?_;have hxl:xs.length<=120:=by omega
 refine ZKF (way:=p0) (On.self g) λsb sp gb gp h3 o3 rb rp=>?_;have hr:=ZQ2 (ZCe .i64 p0 3);have G:=ZVU (ZCe .i64 p0 3);refine ZJF o3 (gb:=gb) (gp:=gp) (by simp) rb (by simp) rp hr λkd h4 a4=>?_;obtain⟨D4,o4,wD4⟩:=a4;refine ZKF (way:=p0) o4 λsb2 sp2 gb2 gp2 h5 o5 rb2 rp2=>?_;generalize ZBd (ZCe .i64 p0 3)=rw0 at*;obtain⟨bs,ps,look,beat⟩:=rw0;dsimp only at hr G rb rp rb2 rp2 wD4⊢;refine ZNU o5 (gb:=gb2) (gp:=gp2) (by simp) rb2 (by simp) rp2 G λkr h6 a6=>?_;obtain⟨R6,o6,wR6⟩:=a6;have hi0:=ZF1 hr;have hb0:(ZCj bs ps look beat).books.length=bs.length:=by show (List.replicate _ _).length=_;rw[XX]
 have hp1:1<=ps.length:=by unfold ZGs at G;rw[Xf,Xw]at G;exact G.1.2.2.1
 refine Zc (λz h'=>∃ (i:Nat) (S:DS),z=(i:Int)/\i<=xs.length/\Zcb kd kr S (65*i) h' [g]/\WOk i S/\FOk S/\ZCU S/\S.books.length=bs.length/\S.parties=ps) (λz=>xs.length-z.toNat)
  ⟨0,ZCj bs ps look beat,rfl,Xh _,⟨D4,R6,0,o6.pick [3,0,6] 7,wD4,wR6,by omega⟩,hi0,ZXi bs ps look beat,ZX1 bs ps look beat,hb0,rfl⟩ ?_
 rintro J z h7 ab ⟨i,S,rfl,hi,⟨D,R,m,o7,wD,wR,hm⟩,w7,f7,u7,hbl,hps⟩
 refine ZI (λt h'=>h'=h7/\t=decide (i<xs.length)) ?_ λJ9 hJ9=>?_
 ·rintro t h8 ⟨rfl,rfl⟩;refine ZG (λhlt=>?_) λ_=>?_
  ·have ax:xs[i]?=some xs[i]:=Xa hlt;have hx:=h2 _ (Xs hlt);generalize xs[i]=x at*;have F:=Zad w7 u7 (by rw[hps];exact hp1) (by omega);have hai:=w7.ai;refine ZD4 ⟨D,o7,wD⟩ w7 (by omega) λs1 d1 h9 a9 w1=>?_;obtain⟨D9,o9,wD9⟩:=a9;have r9:Zr kr S (65*i) m h9 (D9::d1::[g]):=⟨R,o9.pick [2,0,1,3] 4,wR⟩
   dsimp only[ZM];refine r9.bk λs2 hs2=>ZMh ⟨D9,o9,wD9⟩ w7 (by omega) λs3 d3 h10 a10 w3=>?_;obtain⟨D10,o10,wD10⟩:=a10;have hl1:=w1.1;have hl3:=w3.1;have hnA:=w7.l2;have hnT:=w7.l4;refine Zc (λz h'=>∃ (j:Nat) (dc dm:Hp),z.2.2=(j:Int)/\j<=S.asks.length/\Zr kr S (65*i) m h' (dc::dm::D10::d3::d1::[g])/\Own Zm dc z.1 ((S.asks.take j).map λa=>⟨0,(ZDA S a).1⟩)/\Own cB dm z.2.1 ((S.asks.take j).map λa=>(ZDA S a).2)) (λz=>S.asks.length-z.2.2.toNat)
    ⟨0,Hp.emp,Hp.emp,rfl,Xh _,⟨R,o10.emp.emp.pick [5,0,1,2,3,4,6] 7,wR⟩,Own.nil _,Own.nil _⟩ ?_
   rintro J2 ⟨sc,sm,zj⟩ h11 again2 ⟨j,dc,dm,hzj,hj,r11,wc,wm⟩;dsimp only at hzj wc wm;subst hzj;dsimp only;have hlc:=wc.1;have hlm:=wm.1;rw[We,Xk]at hlc hlm;refine ZG (λhltj=>?_) λ_=>?_
   .have P:j<S.asks.length:=by omega
    have I:S.asks[j]?=some S.asks[j]:=Xa P;have ha:=hai _ (Xs P);have ec:(S.asks.take (j+1)).map (λa=>(⟨0,(ZDA S a).1⟩:ZBL))=(S.asks.take j).map (λa=>(⟨0,(ZDA S a).1⟩:ZBL))++[⟨0,(ZDA S S.asks[j]).1⟩]:=by rw[XH,I,Wo];rfl
    have em:(S.asks.take (j+1)).map (λa=>(ZDA S a).2)=(S.asks.take j).map (λa=>(ZDA S a).2)++[(ZDA S S.asks[j]).2]:=by rw[XH,I,Wo];rfl
    generalize S.asks[j]=a at I ha ec em;refine ZN w3.row (Xb j) (by omega) λq E=>ZQ w3.row (r11.sub (by simp)) rfl E (i:=j) I (by rfl) ?_;refine ZI (λt h'=>h'=h11/\t=false) ?_ λJ3 hJ3=>ZG (λe=>by omega) λ_=>hJ3 _ _ ⟨rfl,Xj (by omega)⟩;rintro t h12 ⟨rfl,rfl⟩;refine ZU rfl ?_;obtain⟨bi,hbi⟩:=Wd ha.2.2.1;have C:bi<S.books.length:=by omega
    have ae:ZDe S.books[bi] (i64.wrap (3-a.Side)) a.Qty=ZDA S a:=by unfold ZDA;rw[hbi,ZFO C]
    rw[hbi];refine Zaq r11 C (F.books _ (Xs C)) λah r13=>?_;rw[ae];obtain⟨R13,X,wR13⟩:=r13;refine ZH X λk14 h14 o14=>ZBW (cd:=Zm) (x:=⟨0,(ZDA S a).1⟩) (o14.pick [0,2,1] 3) wc rfl (by decide) (by decide) (by rw[We,Xk];omega) λdc2 q n r f w wc2=>?_;refine ZH w λk16 aj o16=>ZBW (cd:=cB) (x:=(ZDA S a).2) (o16.pick [0,3,1,2] 4) wm rfl (by decide) (by decide) (by rw[We,Xk];omega) λdm2 q2 n2 r2 O o17 wm2=>?_;rw[Z1 (by omega)];exact again2 _ _ ⟨j+1,dc2,dm2,rfl,by omega,⟨R13,o17.pick [2,1,0] 3,wR13⟩,by rw[ec];exact wc2,by rw[em];exact wm2⟩ (by dsimp only;omega)
   ·have hje:j=S.asks.length:=by omega
    subst hje;rw[Xo]at wc wm;obtain⟨R12,o12,wR12⟩:=r11;have hg:g.sub h11:=o12.mem (by simp);refine ZN h1 (Xb i) (by omega) λq E=>ZQ h1 hg rfl E (i:=i) ax (by rfl) ?_;refine Zax (x:=x) ⟨D10,o12.pick [3,0,1,2,4,5,6] 7,wD10⟩ w7 f7 (by omega) hx λs5 d5 os T ah a13 wo5 H w13 f13 _=>?_;obtain⟨D13,X,wD13⟩:=a13;have hg13:g.sub ah:=X.mem (by simp);refine ZN h1 (Xb i) (by omega) λq E=>ZQ h1 hg13 rfl E (i:=i) ax (by rfl) ?_;have r13:Zr kr S (65*i) m ah (D13::dc::dm::d3::d1::[g]):=⟨R12,X.pick [2,0,3,4,5,6,7] 8,wR12⟩
    refine ZFh (x:=x) r13 F H (by omega) hm λh14 r14=>?_;obtain⟨R14,o14,wR14⟩:=r14;refine ZD4 (N:=i+1) ⟨D13,o14.swap,wD13⟩ w13 (by omega) λs6 d6 f a15 w6=>?_;obtain⟨D15,w,wD15⟩:=a15;have hu:=ZcD u7 H;obtain⟨ts,hts,htr⟩:=ZZw w7 H;have hl6:=w6.1;have hnT2:=w13.l4;have hd6:d6.sub f:=w.mem (by simp);have hd3:d3.sub f:=w.mem (by simp);have hdc:dc.sub f:=w.mem (by simp);have hdm:dm.sub f:=w.mem (by simp);have fin:J (i64.wrap ((i:Int)+1)) f:=by rw[Z1 (by omega)];exact ab _ _ ⟨i+1,T,rfl,by omega,⟨D15,R14,100000,w.pick [0,2,7] 8,wD15,wR14,Xc _⟩,w13,f13,hu.1,by rw[hu.2.books,hbl],by rw[hu.2.parties,hps]⟩ (by omega)
    refine Zc (λz h'=>h'=f/\∃ j:Nat,z=(j:Int)/\S.trades.length<=j/\j<=T.trades.length) (λz=>T.trades.length-z.toNat) ⟨rfl,s1.len,rfl,by omega,by rw[hts,Xg];omega⟩ ?_;rintro J4 z aj L ⟨rfl,j,rfl,hj1,hj2⟩;refine ZG (λhlt4=>?_) λ_=>fin
    have P:j<T.trades.length:=by omega
    have ac:T.trades[j]?=some T.trades[j]:=Xa P
    have htk:ZcI S T.trades[j]:=htr _ (by
         have:T.trades[j]?=ts[j-S.trades.length]?:=by rw[hts,XJ hj1]
         rw[ac]at this;exact Xn this.symm)
    generalize T.trades[j]=t at ac htk;have Y:∀ {kk:Nat} {v:Int} {K:Int->Prop},((Zl.enc t).cells.toList.drop kk).take 1=[vi v]->∀ q:Addr,s6.a=some q->K v->ZC ci ⟨(q.add ((j:Int).toNat*8)).block,(q.add ((j:Int).toNat*8)).off+kk,none⟩ aj K:=λ{kk v K} hv q V hK=>by rw[w6.part_at V];exact Zd (cd:=Zl) (cf:=ci) w6.row hd6 rfl V ac rfl (k:=kk) (y:=v) hv hK
    have W:∀ {K:Addr->Prop},(∀ a,s6.a=some a->K a)->Zb s6.a s6.len (j:Int) K:=λhK=>ZN w6.row (Xb j) (by omega) hK;refine Zc (λz h'=>h'=aj/\∃ k:Nat,z=(k:Int)/\k<=S.asks.length) (λz=>S.asks.length-z.toNat) ⟨rfl,0,rfl,Xh _⟩ ?_;rintro J5 z O M ⟨rfl,k,rfl,hk⟩;refine ZG (λhlt5=>?_) λ_=>?_
    .have hk':k<S.asks.length:=by omega
     have I:S.asks[k]?=some S.asks[k]:=Xa hk';have B:=Xs hk';have hcc:(S.asks.map λa=>(⟨0,(ZDA S a).1⟩:ZBL))[k]?=some ⟨0,(ZDA S S.asks[k]).1⟩:=by rw[Yf,I];rfl
     have hmm:(S.asks.map λa=>(ZDA S a).2)[k]?=some (ZDA S S.asks[k]).2:=by rw[Yf,I];rfl
     generalize S.asks[k]=a at I B hcc hmm;have ixA:∀ {K:Addr->Prop},(∀ q,s3.a=some q->K q)->Zb s3.a s3.len (k:Int) K:=λhK=>ZN w3.row (Xb k) (by omega) hK;have rdA:∀ {kk:Nat} {v:Int} {K:Int->Prop},((Zx.enc a).cells.toList.drop kk).take 1=[vi v]->∀ q:Addr,s3.a=some q->K v->ZC ci ⟨(q.add ((k:Int).toNat*10)).block,(q.add ((k:Int).toNat*10)).off+kk,none⟩ O K:=λ{kk v K} hv q V hK=>by rw[w3.part_at V];exact Zd (cd:=Zx) (cf:=ci) w3.row hd3 rfl V I rfl (k:=kk) (y:=v) hv hK
     refine ZI (λ_ h'=>h'=O) ?_ λJ6 hJ6=>?_
     .rintro _ A rfl;rw[Z1 (by omega)];exact M _ _ ⟨rfl,k+1,rfl,by omega⟩ (by omega)
     refine ZI (λb h'=>h'=O/\(b=false->t.Ask≠0/\a.ID=t.Ask/\(ZDA S a).2=true)) ?_ λJ8 ak=>?_
     .rintro b A ⟨rfl,hbf⟩;refine ZD (λ_=>hJ6 _ _ rfl) λe=>?_;obtain⟨e1,e2,e3⟩:=hbf e;obtain⟨c1,c2,c3,c4⟩:=ZQU w7.sa F.books htk e1 B e2 e3;refine W λq1 hq1=>W λq2 hq2=>Y (v:=t.Price) rfl q1 hq1 (Y (v:=t.Qty) rfl q2 hq2 ?_);refine ZEW λr hrt=>?_;have hrt:=hrt c1.1 (by omega) c2.1 (by omega);subst hrt;refine ZN wc.row (Xb k) (by rw[We];omega) λq3 hq3=>ZQ wc.row hdc rfl hq3 (i:=k) hcc (by rfl) ?_;refine ZRh (a:=⟨0,t.Price*t.Qty⟩) (b:=⟨0,(ZDA S a).1⟩) λn hn=>?_;have hn:=hn _ _ rfl rfl;refine ZI (λb h'=>h'=A/\b=false) ?_ λJ7 hJ7=>?_
      .rintro b h19 ⟨rfl,rfl⟩;exact ZU rfl (hJ6 _ _ rfl)
      .have Z:Zb s3.a s3.len (k:Int) λq=>ZC ci ⟨(q.add ((k:Int).toNat*10)).block,(q.add ((k:Int).toNat*10)).off+3,none⟩ A λn8=>ZB (n8==2) (J7 (decide (n<0)) A) (J7 false A):=ixA λq V=>rdA (v:=a.Side) rfl q V (ZD (λe=>hJ7 _ _ ⟨rfl,Xj (by have:=c4 (by simpa using e);omega)⟩) λ_=>hJ7 _ _ ⟨rfl,rfl⟩);exact ixA λq V=>rdA (v:=a.Side) rfl q V (ZD (λe=>ZG (λe2=>by have:=c3 (by simpa using e);omega) λ_=>Z) λ_=>Z)
     .refine W λq1 hq1=>Y (v:=t.Ask) rfl q1 hq1 (ZD (λ_=>ak _ _ ⟨rfl,λe=>by cases e⟩) λe1=>?_);refine ixA λq2 hq2=>W λq3 hq3=>Zd (cd:=Zx) (cf:=ci) w3.row hd3 rfl hq2 I rfl (k:=0) (y:=a.ID) rfl (Y (v:=t.Ask) rfl q3 hq3 (ZD (λ_=>ak _ _ ⟨rfl,λe=>by cases e⟩) λe2=>?_));refine ZN wm.row (Xb k) (by rw[We];omega) λq4 hq4=>ZQ wm.row hdm rfl hq4 (i:=k) hmm (by rfl) ?_;exact ak _ _ ⟨rfl,λe3=>⟨by simpa using e1,by simpa using e2,by simpa using e3⟩⟩
    .rw [Z1 (by omega)];exact L _ _ ⟨rfl,j+1,rfl,by omega,by omega⟩ (by omega)
  .refine Zf rfl ?_;exact ZWQ o7 λh' o'=>⟨rfl,o'.mem (by simp)⟩
 .refine Zf rfl (hJ9 _ _ ⟨rfl,?_⟩);rw[XE];omega
theorem topBook_law(W:World)(p0:Int)(p1:Sl)(_o0:Opn TP W 3 [vi p0])(j:Opn TP W 22 [.slice p1.a p1.len p1.cap]):F3 p0 p1 (ZW3 W) (Lawful (ZW3 W)):=by obtain⟨xs,e,f⟩:=tacts_of j;exact ZPN e f
end Go.Proofs.YtkmniidiifpdgaaGreat
