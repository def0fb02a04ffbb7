/- Made by program: of our texts what this law needs (TopV TopW TopX TopY TopZ TopAA TopAB TopAC LineT TopAD TopAE TopAF ModD TopAG TopAH TopAI TopAJ ModE ModF ModG ModH ModI ModJ ModK ModL ModM ModN TopAK TopAL ModO ModP ModQ ModR TopAM TopAN TopAO TopAP TopAQ TopAR TopAS). -/
import Derived.Test.YtkmniidiifpdgaaGreatP04
set_option linter.unusedVariables false
namespace Go.Proofs.YtkmniidiifpdgaaGreat
open Go.Eng
section
variable {k:DK} {S:DS} {b:Nat} {who:Int} {c:DC} {h:Hp} {l:List Hp} {N:Nat}
theorem Zu.getA {id:Int} (a:Zu k S h l) (i:WOk N S) (hN:N<=10000) {Q:Ask×Bool->Hp->Prop} (hq:∀ h',Zu k S h' l->Q (ZLF ZPO (Go.Proofs.YtkmniidiifpdgaaGreat.getA S.asks id)) h'):ZA TP 81 [Value.pointer k.pa,Value.int .i64 id] (ZW [ZAb,cB]) h Q:=by obtain ⟨ca,R,o,w,cl⟩:=a.asks;exact ZWI o w i.sa (by have:=i.l2; omega) λc' h' o' w'=>hq h' (cl h' c' _ _ o' w')
theorem Zu.getQ {id:Int} (a:Zu k S h l) (i:WOk N S) (hN:N<=10000) {Q:Za×Bool->Hp->Prop} (hq:∀ h',Zu k S h' l->Q (ZLF ZM0 (Go.Proofs.YtkmniidiifpdgaaGreat.getQ S.quotes id)) h'):ZA TP 210 [Value.pointer k.pq,Value.int .i64 id] (ZW [ZS,cB]) h Q:=by obtain ⟨ca,R,o,w,cl⟩:=a.quotes;exact ZRM o w i.qs (by have:=i.l1; omega) λc' h' o' w'=>hq h' (cl h' c' _ _ o' w')
theorem Zu.killQ {id:Int} (a:Zu k S h l) (i:WOk N S) (hN:N<=10000) {Q:Bool->Hp->Prop} (hq:∀ t h',Zu k {S with quotes:=Go.Proofs.YtkmniidiifpdgaaGreat.killQ S.quotes id} h' l->Q t h'):ZA TP 82 [Value.pointer k.pq,Value.int .i64 id] cB h Q:=by obtain ⟨ca,R,o,w,cl⟩:=a.quotes;exact ZNS o w i.qs (by have:=i.l1; omega) λc' h' o' w'=>hq _ h' (cl h' c' _ _ o' w')
theorem Zu.dropDue {kd id:Int} (a:Zu k S h l) (hd:S.due<=1000000) {Q:Bool->Hp->Prop} (hq:∀ t h',Zu k S h' l->Q t h'):ZA TP 89 [Value.pointer k.pd,Value.int .i64 kd,Value.int .i64 id] cB h Q:=by obtain ⟨ca,R,o,w,cl⟩:=a.dues;exact ZVP o w hd λt c' h' o' w'=>hq t h' (cl h' c' _ S.due o' w')
theorem Zu.addDue {x:Due} (a:Zu k S h l) (hd:S.due<=1000000) {Q:Bool->Hp->Prop} (hq:∀ t h',Zu k {S with due:=S.due+1} h' l->Q t h'):ZA TP 209 [Value.pointer k.pd,ZBk.enc x] cB h Q:=by obtain ⟨ca,R,o,w,cl⟩:=a.dues;exact ZXD o w hd λt c' h' o' w'=>hq t h' (cl h' c' _ _ o' w')
theorem WOk.due {S:DS} (i:WOk N S) (hN:N<=10000):S.due<=1000000:=by have:=i.l3; omega
theorem ZMq {id:Int} (a:Has k b who c h l) (i:WOk N c.d) (hN:N≤10000) {Q:Ask×Int→Hp→Prop} (hq:∀ h',Has k b who c h' l→Q (ZB4 c.d who id) h'):
 ZA TP 211 [Value.pointer k.p,Value.pointer (some ⟨b,0,none⟩),Value.int .i64 id] (ZW [ZAb,cI .i64]) h Q:=by
 refine c211 ?_;unfold F211;unfold ZB4 at hq;dsimp only [ZR,DK.p];refine ZF (cd:=cP) (x:=k.pa) a.ob (i:=8) rfl ?_;obtain ⟨C,wc,a⟩:=a;refine a.getA i hN λh2 a2=>?_;have a2:Has k b who c h2 l:=⟨C,wc,a2⟩
 cases hg:getA c.d.asks id with
 | none=>
   rw [hg] at hq;exact Zh rfl (hq h2 a2)
 | some x=>
   rw [hg] at hq;dsimp only [ZLF] at hq ⊢;refine ZT rfl ?_;refine a2.ldWho ?_;refine ZD (λe=>?_) λe=>?_
   .rw [if_pos (by simpa using e)] at hq;exact hq h2 a2
   rw [if_neg (by simpa using e)] at hq;refine ZD (λe=>?_) λe=>?_
   .rw [if_pos (by simpa using e)] at hq;exact hq h2 a2
   rw [if_neg (by simpa using e)] at hq;exact hq h2 a2
theorem ZHL {q:Za} (a:Zu k S h l) (i:WOk N S) (hN:N≤10000) {Q:Bool→Hp→Prop} (hq:∀ h',Zu k S h' l→Q (ZFN S q) h'):ZA TP 88 [Value.pointer k.p,ZS.enc q] cB h Q:=by
 refine c88 ?_;unfold F88;unfold ZFN at hq;dsimp only [ZR,DK.p];refine ZF (cd:=cP) (x:=k.pa) a.ob (i:=8) rfl ?_;refine a.getA i hN λh2 a2=>?_;cases hg:getA S.asks q.Ask with
 | none=>
   rw [hg] at hq;exact ZT rfl (hq h2 a2)
 | some x=>
   rw [hg] at hq;dsimp only [ZLF] at hq ⊢;refine Zh rfl (ZD (λe=>?_) λe=>?_)
   .rw [e] at hq;exact hq h2 a2
   .rw [e] at hq;exact hq h2 a2
theorem ZLh {n:Int} {h:Hp} {Q:Bool->Hp->Prop} (hq:Q (ZJv n) h):ZA TP 207 [Value.int .i64 n] cB h Q:=by refine c207 ?_;unfold F207;exact ZMb hq
theorem ZIV {x:Ask} {q:Za} (a:Zu k S h l) (i:WOk N S) (hb:isBond S x.Bond=true) (hp:q.Price<=1000000) (hx:x.Qty<=1000000) {Q:Int->Hp->Prop} (hq:∀ h',Zu k S h' l->Q (ZC2 S x q) h'):
 ZA TP 215 [Value.pointer k.p,ZAb.enc x,ZS.enc q] (cI .i64) h Q:=by
 refine c215 ?_;unfold F215;unfold ZC2 at hq;dsimp only [ZR,DK.p];refine a.ldHalted hb i.bl ?_;refine ZD (λe=>?_) λe=>?_
 .rw [if_pos e] at hq;exact hq h a
 rw [if_neg (by rw [e]; simp)] at hq;have hn:=ZBL.1 hb;have hbk:=ZBS i hn;have hget:=ZAc hn;generalize x.Bond=n at*;obtain ⟨m,rfl⟩:=Int.eq_ofNat_of_zero_le hn.1;have hm:m<S.books.length:=by omega
 have hget:Zc S ((m:Nat):Int)=S.books[m]:=hget;obtain ⟨cb,R,p,o1,w1,hld,cl⟩:=a.book hm;refine hld ?_;rw [<-hget] at w1;refine ZWG o1 w1 hbk.1 hbk.2.1 (by have:=hbk.2.2.1; omega) hp hx λc2 h2 o2 w2=>?_;have a2:=cl h2 c2 _ _ o2 w2;rw [hget,List.set_getElem_self] at a2;exact hq h2 a2
theorem ZM9 {id:Int} (a:Zu k S h l) (i:WOk N S) (hN:N<=10000) {Q:PUnit->Hp->Prop} (hq:∀ h',Zu k {S with quotes:=ZIr S.quotes id} h' l->Q ⟨⟩ h'):ZA TP 144 [Value.pointer k.p,Value.int .i64 id] (ZW []) h Q:=by
 refine c144 ?_;unfold F144;have hd:=i.due hN;have hl1:=i.l1;dsimp only [ZR,DK.p];refine ZF (cd:=cP) (x:=k.pq) a.ob (i:=7) rfl ?_;obtain ⟨cq,R,o1,w1,cl⟩:=a.quotes;refine ZRU o1 w1 (by omega) λs c2 d2 h2 o2 w2 wd=>?_;have a2:=cl h2 c2 _ _ o2.rot3.swap w2;have hfl:(S.quotes.filter λx=>x.Ask==id).length<=N:=Nat.le_trans (List.length_filter_le _ _) hl1;generalize hys:(S.quotes.filter λx=>x.Ask==id).map Za.ID=ys at wd;have hyl:ys.length<=N:=by rw [<-hys,List.length_map]; exact hfl
 have hlen:=wd.1;refine Zb (λz h'=>∃ j:Nat,z=(j:Int)/\j<=ys.length/\Zu k {S with quotes:=ZIr S.quotes id} h' (d2::l)) (λz=>ys.length-z.toNat) ⟨0,rfl,Nat.zero_le _,a2⟩ ?_;rintro J z h3 again ⟨j,rfl,hj,a3⟩
 refine ZJ (λhlt=>?_) λhge=>?_
 .have hj':j<ys.length:=by omega
  refine ZL wd.row (Int.natCast_nonneg j) (by omega) λp hp=>ZO wd.row (a3.sub (by simp)) rfl hp (i:=j) (List.getElem?_eq_getElem hj') (by rfl) ?_;refine ZF (cd:=cP) (x:=k.pd) a3.ob (i:=9) rfl ?_;refine a3.dropDue hd λt h4 a4=>?_;rw [ZAQ (by omega)];exact again _ _ ⟨j+1,rfl,by omega,a4⟩ (by omega)
 .refine ZF (cd:=cP) (x:=k.pd) a3.ob (i:=9) rfl ?_;refine a3.dropDue hd λt h4 a4=>?_;refine ZF (cd:=cP) (x:=k.pd) a4.ob (i:=9) rfl ?_;exact a4.dropDue hd λt h5 a5=>hq h5 a5.drop
theorem ZWD {id st:Int} (a:Zu k S h l) (i:WOk N S) (hN:N<=10000) {Q:Int->Hp->Prop} (hq:∀ n h',Zu k {S with asks:=(ZRe S.asks id st).1} h' l->Q n h'):ZA TP 143 [Value.pointer k.pa,Value.int .i64 id,Value.int .i64 st] (cI .i64) h Q:=by obtain ⟨ca,R,o,w,cl⟩:=a.asks;exact ZXX o w i.sa (by have:=i.l2; omega) λc' h' o' w'=>hq _ h' (cl h' c' _ _ o' w')
theorem ZMr {x:Ask} (a:Has k b who c h l) (i:WOk N c.d) (hN:N<=10000) (ho:c.outs.length<=1000000) {Q:PUnit->Hp->Prop} (hq:∀ h',Has k b who (ZHW c x) h' l->Q ⟨⟩ h'):
 ZA TP 84 [Value.pointer k.p,Value.pointer (some ⟨b,0,none⟩),ZAb.enc x] (ZW []) h Q:=by
 refine c84 ?_;unfold F84;dsimp only [ZR,DK.p];refine ZF (cd:=cP) (x:=k.pa) a.ob (i:=8) rfl ?_;obtain ⟨C,wc,a⟩:=a;refine ZWD a i hN λn h2 a2=>?_;refine ZM9 a2 (i.end x.ID 4) hN λh3 a3=>?_;have a3:Has k b who (ZTb c x.ID 4) h3 l:=⟨C,wc,a3⟩
 exact ZBv (ns:=[x.ID]) a3 (by simp) ho λh4 a4=>hq h4 a4
theorem ZHi {x:Ask} (a:Has k b who c h l) (i:WOk N c.d) (hN:N<=10000) (ho:c.outs.length<=1000000) {Q:PUnit->Hp->Prop} (hq:∀ h',Has k b who (ZAH c x) h' l->Q ⟨⟩ h'):
 ZA TP 83 [Value.pointer k.p,Value.pointer (some ⟨b,0,none⟩),ZAb.enc x] (ZW []) h Q:=by
 refine c83 ?_;unfold F83;unfold ZAH at hq;dsimp only [ZR,DK.p];refine ZF (cd:=cP) (x:=k.pq) a.ob (i:=7) rfl ?_;obtain ⟨C,wc,a⟩:=a;refine a.killQ i hN λt h2 a2=>?_;have a2':Has k b who (ZFm c x.Hit) h2 l:=⟨C,wc,a2⟩
 have i2:WOk N (ZFm c x.Hit).d:=i.kill x.Hit;refine ZF (cd:=cI .i64) (x:=c.d.now) a2.ob (i:=4) rfl ?_;refine ZJ (λe=>?_) λe=>?_
 .rw [if_pos (by omega)] at hq;exact ZMr a2' i2 hN ho hq
 .rw [if_neg (by omega)] at hq;refine ZF (cd:=cP) (x:=k.pa) a2.ob (i:=8) rfl ?_;obtain ⟨ca,R,o3,w3,cl⟩:=a2.asks;refine ZUt o3 w3 i2.sa (by have:=i.l2; show c.d.asks.length<=_; omega) λc4 h4 o4 w4=>?_;have a4:Has k b who {ZFm c x.Hit with d:={(ZFm c x.Hit).d with asks:=(ZGl c.d.asks x.ID).1}} h4 l:=⟨C,wc,cl h4 c4 _ _ o4 w4⟩
  exact ZBv (ns:=[x.ID,x.Hit]) a4 (by simp) ho λh5 a5=>hq h5 a5
theorem ZXA {id:Int} (a:Has k b who c h l) (i:WOk N c.d) (hN:N<=10000) (ho:c.outs.length<=1000000) {Q:Int->Hp->Prop} (hq:∀ h',Has k b who (ZGe c who id).1 h' l->Q (ZGe c who id).2 h'):
 ZA TP 135 [Value.pointer k.p,Value.pointer (some ⟨b,0,none⟩),Value.int .i64 id] (cI .i64) h Q:=by
 refine c135 ?_;unfold F135;unfold ZGe at hq;refine ZMq a i hN λh2 a2=>?_;generalize ZB4 c.d who id=r at hq ⊢;refine ZD (λe=>?_) λe=>?_
 .have e:r.2=0:=by simpa using e
  rw [if_pos e] at hq;rw [e];dsimp only [ZR];refine a2.setId λh3 a3=>?_;exact ZMr (c:={c with id:=id}) a3 i hN ho λh4 a4=>hq h4 a4
 .rw [if_neg (by simpa using e)] at hq;exact hq h2 a2
theorem ZXT {id:Int} (a:Has k b who c h l) (i:WOk N c.d) (hN:N≤10000) {Q:Int→Hp→Prop} (hq:∀ h',Has k b who (ZID c who id).1 h' l→Q (ZID c who id).2 h'):
 ZA TP 205 [Value.pointer k.p,Value.pointer (some ⟨b,0,none⟩),Value.int .i64 id] (cI .i64) h Q:=by
 refine c205 ?_;unfold F205;unfold ZID at hq;dsimp only [ZR,DK.p];refine ZF (cd:=cP) (x:=k.pq) a.ob (i:=7) rfl ?_;obtain ⟨C,wc,a⟩:=a;refine a.getQ i hN λh2 a2=>?_;have a2':Has k b who c h2 l:=⟨C,wc,a2⟩
 cases hg:getQ c.d.quotes id with
 | none=>
   rw [hg] at hq;exact Zh rfl (hq h2 a2')
 | some x=>
   rw [hg] at hq;dsimp only [ZLF] at hq ⊢;refine ZT rfl ?_;refine a2'.ldWho ?_;refine ZD (λe=>?_) λe=>?_
   .rw [if_pos (by simpa using e)] at hq;exact hq h2 a2'
   rw [if_neg (by simpa using e)] at hq;refine ZHL a2 i hN λh3 a3=>?_;have a3':Has k b who c h3 l:=⟨C,wc,a3⟩
   refine ZD (λe=>?_) λe=>?_
   .rw [if_pos e] at hq;exact hq h3 a3'
   rw [if_neg (by rw [e]; simp)] at hq;refine a3'.setId λh4 a4=>?_;refine ZF (cd:=cP) (x:=k.pq) a4.ob (i:=7) rfl ?_;refine a4.ldWho ?_;obtain ⟨C4,wc4,a4⟩:=a4;obtain ⟨cq,R,o5,w5,cl⟩:=a4.quotes;exact ZUh o5 w5 i.qs (by have:=i.l1; show c.d.quotes.length<=_; omega) λc6 h6 o6 w6=>hq h6 ⟨C4,wc4,cl h6 c6 _ _ o6 w6⟩
theorem ZSk {x:Ask} {q:Za} (a:Has k b who c h l) (i:WOk N c.d) (hN:N≤10000) (ho:c.outs.length≤1000000) (hb:isBond c.d x.Bond=true) (hp:q.Price≤1000000) (hx:x.Qty≤1000000) {Q:Int→Hp→Prop}
 (hq:∀ h',Has k b who (ZNp c x q).1 h' l->Q (ZNp c x q).2 h'):ZA TP 212 [Value.pointer k.p,Value.pointer (some ⟨b,0,none⟩),ZAb.enc x,ZS.enc q] (cI .i64) h Q:=by
 refine c212 ?_;unfold F212;unfold ZNp at hq;refine ZN (λt h'=>h'=h/\t=decide (q.Live=false\/q.Expires<=c.d.now)) ?_ λJ hJ=>?_
 .rintro t h' ⟨rfl,rfl⟩;refine ZJ (λhc=>?_) λhc=>?_
  .rw [if_pos hc] at hq;exact hq h' a
  rw [if_neg hc] at hq;obtain ⟨C,wc,a⟩:=a;refine ZIV a i hb hp hx λh2 a2=>?_;refine ZD (λe=>?_) λe=>?_
  .rw [if_pos (by simpa using e)] at hq;exact hq h2 ⟨C,wc,a2⟩
  rw [if_neg (by simpa using e)] at hq;dsimp only [ZR,DK.p];refine ZF (cd:=cP) (x:=k.pf) a2.ob (i:=6) rfl ?_;obtain ⟨D,hD,wD⟩:=a2.dsub;obtain ⟨cF,hF,wF⟩:=wD.firm_sub hD;refine ZWh hF wF hp hx ?_;refine ZD (λe=>?_) λe=>?_
  .rw [if_pos (by simpa using e)] at hq;exact hq h2 ⟨C,wc,a2⟩
  rw [if_neg (by simpa using e)] at hq;refine ZF (cd:=cI .i64) (x:=c.d.now) a2.ob (i:=4) rfl ?_;refine ZF (cd:=cI .i64) (x:=c.d.look) a2.ob (i:=2) rfl ?_;refine ZF (cd:=cP) (x:=k.pa) a2.ob (i:=8) rfl ?_;obtain ⟨ca,R,o3,w3,cl⟩:=a2.asks;refine ZT1 (id:=x.ID) (q:=q.ID) (u:=ZEL c.d) o3 w3 i.sa (by have:=i.l2; omega) λc4 h4 o4 w4=>?_;have a4:=cl h4 c4 _ _ o4 w4;refine ZD (λe=>?_) λe=>?_
  .have e:(ZDX c.d.asks x.ID q.ID (ZEL c.d)).2≠0:=by simpa using e
   rw [if_pos e] at hq;rw [ZO6 e] at a4;exact hq h4 ⟨C,wc,a4⟩
  rw [if_neg (by simpa using e)] at hq;refine ZF (cd:=cP) (x:=k.pd) a4.ob (i:=9) rfl ?_;refine Zu.addDue (x:=⟨ZEL c.d,2,x.ID⟩) a4 (i.due hN) λt h5 a5=>?_;have a5:Has k b who {c with d:={c.d with asks:=(ZDX c.d.asks x.ID q.ID (ZEL c.d)).1,due:=c.d.due+1}} h5 l:=⟨C,wc,a5⟩
  refine a5.setId λh6 a6=>?_;exact ZBv (ns:=[x.ID,q.ID,ZEL c.d]) a6 (by simp) ho λh7 a7=>hq h7 a7
 .dsimp only [ZR,DK.p];refine ZD (λe=>hJ _ _ ⟨rfl,?_⟩) λe=>ZF (cd:=cI .i64) (x:=c.d.now) a.ob (i:=4) rfl (hJ _ _ ⟨rfl,?_⟩)
  .rw [Bool.eq_iff_iff]; simp_all
  .have e:q.Live=true:=by simpa using e
   exact decide_eq_decide.2 (by rw [e]; simp)
end
section
variable {k:DK} {S:DS} {b:Nat} {who:Int} {c:DC} {h:Hp} {l:List Hp} {N:Nat}
theorem ZFc (i:WOk N S) {a:Ask} (ha:a∈S.asks):isBond S a.Bond=true/\a.Qty<=1000000/\0<=a.Client/\a.Client<8:=by have:=i.ai a ha;exact ⟨ZBL.2 ⟨this.2.2.1,this.2.2.2.1⟩,this.2.2.2.2.2.1,this.2.2.2.2.2.2⟩
theorem ZD9 {id:Int} (h:(ZB4 S who id).2=0):(ZB4 S who id).1∈S.asks∧(ZB4 S who id).1.Client=who∧(ZB4 S who id).1.State=1∧getA S.asks id=some (ZB4 S who id).1:=by
 unfold ZB4 at*;cases hg:getA S.asks id with
 | none=>rw [hg] at h; cases h
 | some a=>
   rw [hg] at h;dsimp only at h ⊢;by_cases h1:a.Client≠who
   .rw [if_pos h1] at h; cases h
   rw [if_neg h1] at h ⊢;by_cases h2:a.State≠1
   .rw [if_pos h2] at h; cases h
   rw [if_neg h2];exact ⟨(ZDp hg).1,Classical.not_not.1 h1,Classical.not_not.1 h2,rfl⟩
theorem ZOI {s:Int} {qs:List Za} (h:(ZLa s qs).2=true):(ZLa s qs).1∈qs:=by
 cases qs with
 | nil=>cases h
 | cons q t=>
   unfold ZLa at h ⊢;dsimp only at h ⊢;split at h
   .cases h
   ·rename_i hs;rw [if_neg hs];dsimp only
    have key:∀ (l:List Za) (b:Za),(∀ x∈l,x∈q::t)→b∈q::t→l.foldl (ZKe s) b∈q::t:=by
     intro l;induction l with
     | nil=>intro b _ hb; exact hb
     | cons y l ih=>
       intro b hl hb;refine ih (ZKe s b y) (λx hx=>hl x (by simp [hx])) ?_;unfold ZKe;split
       .exact hl y (by simp)
       .exact hb
    exact key (q::t) q (λx hx=>hx) (by simp)
theorem ZXE {m:Msg} (a:Has k b who c h l) (i:WOk N c.d) (hN:N≤10000) (ho:c.outs.length≤1000000) {Q:Int→Hp→Prop} (hq:∀ h',Has k b who (ZGg c who m).1 h' l→Q (ZGg c who m).2 h'):
 ZA TP 133 [Value.pointer k.p,Value.pointer (some ⟨b,0,none⟩),ZAn.enc m] (cI .i64) h Q:=by
 refine c133 ?_;unfold F133;unfold ZGg at hq;dsimp only [ZR,DK.p];refine ZD (λe=>?_) λe=>?_
 ·rw [if_pos (by simpa using e)] at hq;refine ⟨by decide,by decide,?_⟩;refine ZF (cd:=cP) (x:=k.pq) a.ob (i:=7) rfl ?_;obtain ⟨C,wc,a⟩:=a;refine a.getQ i hN fun h2 a2=>?_;have a2:Has k b who c h2 l:=⟨C,wc,a2⟩
  cases hg:getQ c.d.quotes m.F_0 with
  | none=>
    rw [hg] at hq;exact Zh rfl (hq h2 a2)
  | some q=>
    rw [hg] at hq;dsimp only [ZLF] at hq ⊢;refine ZT rfl ?_;refine ZMq a2 i hN λh3 a3=>?_;refine ZD (λe=>?_) λe=>?_
    .rw [if_pos (by simpa using e)] at hq;exact hq h3 a3
    rw [if_neg (by simpa using e)] at hq;obtain ⟨hm,_⟩:=ZD9 (S:=c.d) (who:=who) (id:=q.Ask) (by simpa using e);obtain ⟨hb1,hb2,_⟩:=ZFc i hm;exact ZSk (x:=(ZB4 c.d who q.Ask).1) (q:=q) a3 i hN ho hb1 (i.qi q (ZJu hg).1).2.2.1 hb2 hq
 .rw [if_neg (by simpa using e)] at hq;refine ⟨by decide,by decide,?_⟩;refine ZMq a i hN λh3 a3=>?_;refine ZD (λe=>?_) λe=>?_
  .rw [if_pos (by simpa using e)] at hq;exact hq h3 a3
  rw [if_neg (by simpa using e)] at hq;obtain ⟨hm,_⟩:=ZD9 (S:=c.d) (who:=who) (id:=m.F_0) (by simpa using e);obtain ⟨hb1,hb2,_⟩:=ZFc i hm;generalize (ZB4 c.d who m.F_0).1=x at*;refine ZF (cd:=cP) (x:=k.pq) a3.ob (i:=7) rfl ?_;refine ZF (cd:=cI .i64) (x:=c.d.now) a3.ob (i:=4) rfl ?_;obtain ⟨C,wc,a3⟩:=a3;obtain ⟨cq,R,o4,w4,cl⟩:=a3.quotes;have hl1:=i.l1;refine ZU3 o4 w4 (by omega) λs c5 d5 h5 o5 w5 wd=>?_;have a5:=cl h5 c5 _ _ (o5.pick [0,2,1] 3 (by decide) (by decide)) w5;have a5:Has k b who c h5 (d5::l):=⟨C,wc,a5.perm (List.Perm.swap _ _ _)⟩
  refine ZXC wd.row (a5.sub (by simp)) (Nat.le_trans (List.length_filter_le _ _) (by omega)) ?_;have a5:=a5.drop;refine ZD (λe=>?_) λe=>?_
  .rw [if_pos (by simpa using e)] at hq;exact hq h5 a5
  rw [if_neg (by simpa using e)] at hq;have hbm:=ZOI (s:=x.Side) (qs:=c.d.quotes.filter (ZPh x.ID c.d.now)) (by simpa using e);generalize (ZLa x.Side (c.d.quotes.filter (ZPh x.ID c.d.now))).1=q at*;exact ZSk (x:=x) (q:=q) a5 i hN ho hb1 (i.qi q (List.mem_filter.1 hbm).1).2.2.1 hb2 hq
theorem ZQK {m:Msg} (a:Has k b who c h l) (i:WOk N c.d) (hN:N≤10000) (hw:0≤who∧who<8) (ho:c.outs.length≤1000000) {Q:Int→Hp→Prop} (hq:∀ h',Has k b who (ZCR c who m).1 h' l→Q (ZCR c who m).2 h'):
 ZA TP 132 [Value.pointer k.p,Value.pointer (some ⟨b,0,none⟩),ZAn.enc m] (cI .i64) h Q:=by
 refine c132 ?_;unfold F132;unfold ZCR at hq;refine ZD (λe=>?_) λe=>?_
 .rw [if_pos (by simpa using e)] at hq;refine ⟨by decide,by decide,?_⟩;exact ZXT a i hN hq
 rw [if_neg (by simpa using e)] at hq;dsimp only [ZR,DK.p];refine ⟨by decide,by decide,?_⟩;refine ZF (cd:=cP) (x:=k.pa) a.ob (i:=8) rfl ?_;obtain ⟨C,wc,a⟩:=a;refine a.getA i hN λh2 a2=>?_;have a2:Has k b who c h2 l:=⟨C,wc,a2⟩
 refine ⟨by decide,by decide,by decide,by decide,?_⟩;cases hg:getA c.d.asks m.F_0 with
 | none=>
   rw [hg] at hq;exact Zh rfl (hq h2 a2)
 | some x=>
   rw [hg] at hq;dsimp only [ZLF] at hq ⊢;obtain ⟨hb1,hb2,hc1,hc2⟩:=ZFc i (ZDp hg).1;refine ZT rfl ?_;refine a2.ldWho ⟨hw.1,?_⟩;refine ZD (λe=>?_) λe=>?_
   .rw [if_pos (by simpa using e)] at hq;exact hq h2 a2
   rw [if_neg (by simpa using e)] at hq;refine ZD (λe=>?_) λe=>?_
   .rw [if_pos (by simpa using e)] at hq;exact hq h2 a2
   rw [if_neg (by simpa using e)] at hq;refine a2.ldHalted hb1 i.bl ?_;refine ZD (λe=>?_) λe=>?_
   .rw [if_pos e] at hq;exact hq h2 a2
   rw [if_neg (by rw [e]; simp)] at hq;refine a2.ldBond hb1 i.bl ?_;have hbb:=i.bonds _ (ZA6 hb1 i.bl).1;refine ZNG (b:=ZAY c.d x.Bond) (by omega) ?_;refine ZD (λe=>?_) λe=>?_
   .rw [if_pos (by simpa using e)] at hq;exact hq h2 a2
   rw [if_neg (by simpa using e)] at hq;refine ZLh (ZD (λe=>?_) λe=>?_)
   .rw [if_pos (by simpa using e)] at hq;exact hq h2 a2
   rw [if_neg (by simpa using e)] at hq;have hc3:=i.c3;have hl1:=i.l1;refine ZF (cd:=cI .i64) (x:=c.d.quote) a2.ob (i:=14) rfl ?_;refine a2.ldWho ?_;refine ZF (cd:=cI .i64) (x:=c.d.now) a2.ob (i:=4) rfl ?_;refine ZF (cd:=cP) (x:=k.pq) a2.ob (i:=7) rfl ?_;rw [w64 (n:=c.d.quote+1) (by omega) (by omega)];obtain ⟨C2,wc2,a2⟩:=a2;obtain ⟨cq,R,o3,w3,cl⟩:=a2.quotes;refine ZWb (x:=Z5 c who x m) o3 w3 i.qs (λy hy=>by have:=(i.qi y hy).1; show y.ID<c.d.quote+1; omega) (by omega) λold c4 h4 o4 w4=>?_;have a4:=cl h4 c4 _ _ o4 w4;refine ZD (λe=>?_) λe=>?_
   .have e:(ZIT c.d.quotes (Z5 c who x m)).2≠0:=by simpa using e
    rw [if_pos e] at hq;rw [ZSf e] at a4;exact hq h4 ⟨C2,wc2,a4⟩
   rw [if_neg (by simpa using e)] at hq;have a4:Has k b who {c with d:={c.d with quotes:=(ZIT c.d.quotes (Z5 c who x m)).1}} h4 l:=⟨C2,wc2,a4⟩
   refine ZF (cd:=cI .i64) (x:=c.d.quote) a4.ob (i:=14) rfl ?_;rw [w64 (n:=c.d.quote+1) (by omega) (by omega)];refine a4.setQuote λh5 a5=>?_;refine ZF (cd:=cI .i64) (x:=c.d.quote+1) a5.ob (i:=14) rfl ?_;refine a5.setId λh6 a6=>?_;refine ZF (cd:=cP) (x:=k.pd) a6.ob (i:=9) rfl ?_;obtain ⟨C6,wc6,a6⟩:=a6;refine Zu.addDue (x:=⟨IntKind.i64.wrap (c.d.now+m.F_2),3,c.d.quote+1⟩) a6 (i.due hN) λt h7 a7=>?_;have a7:Has k b who (ZOJ c (Z5 c who x m)) h7 l:=⟨C6,wc6,a7⟩
   exact ZBv (ns:=[x.ID,c.d.quote+1,m.F_1,IntKind.i64.wrap (c.d.now+m.F_2)]) a7 (by simp) ho λh8 a8=>hq h8 a8
end
section
variable {k:DK} {S:DS} {b:Nat} {who:Int} {c:DC} {h:Hp} {l:List Hp} {N:Nat}
theorem ZGu (x:Ask):∀ (is:List Nat) (c:DC),(is.foldl (ZBf x) c).d=c.d∧(is.foldl (ZBf x) c).id=c.id∧(is.foldl (ZBf x) c).outs.length≤c.outs.length+is.length
 | [],c=>⟨rfl,rfl,by simp⟩
 | i::is,c=>by
   have h:=ZGu x is (ZBf x c i);rw [List.foldl_cons];have e:(ZBf x c i).d=c.d/\(ZBf x c i).id=c.id/\(ZBf x c i).outs.length<=c.outs.length+1:=by
    unfold ZBf;split
    .exact ⟨rfl,rfl,by simp [ZBQ]⟩
    .exact ⟨rfl,rfl,by omega⟩
   rw [List.length_cons];exact ⟨by rw [h.1,e.1],by rw [h.2.1,e.2.1],by omega⟩
theorem ZPf {m:Msg} (a:Has k b who c h l) (i:WOk N c.d) (hN:N≤10000) (hw:0≤who∧who<8) (ho:c.outs.length≤500000) {Q:Int→Hp→Prop} (hq:∀ h',Has k b who (ZBX c who m).1 h' l→Q (ZBX c who m).2 h'):
 ZA TP 136 [Value.pointer k.p,Value.pointer (some ⟨b,0,none⟩),ZAn.enc m] (cI .i64) h Q:=by
 refine c136 ?_;unfold F136;unfold ZBX at hq;refine ⟨by decide,by decide,by decide,by decide,by decide,by decide,by decide,by decide,by decide,by decide,?_⟩;refine a.isBond (ZD (λe=>?_) λe=>?_)
 .rw [if_pos (by simpa using e)] at hq;exact hq h a
 have hb:isBond c.d m.F_0=true:=by simpa using e
 rw [if_neg (by rw [hb]; simp)] at hq;refine ZDF (ZD (λe=>?_) λe=>?_)
 .rw [if_pos (by simpa using e)] at hq;exact hq h a
 rw [if_neg (by simpa using e)] at hq;dsimp only [ZR,DK.p];refine a.ldHalted hb i.bl ?_;refine ZD (λe=>?_) λe=>?_
 .rw [if_pos e] at hq;exact hq h a
 rw [if_neg (by rw [e]; simp)] at hq;refine a.ldBond hb i.bl ?_;have hbb:=i.bonds _ (ZA6 hb i.bl).1;refine ZRl (b:=ZAY c.d m.F_0) (by omega) ?_;refine ZD (λe=>?_) λe=>?_
 .rw [if_pos (by simpa using e)] at hq;exact hq h a
 rw [if_neg (by simpa using e)] at hq;refine ZF (cd:=cP) (x:=k.pf) a.ob (i:=6) rfl ?_;refine a.ldWho ?_;obtain ⟨C,wc,a'⟩:=a;obtain ⟨D,hD,wD⟩:=a'.dsub;obtain ⟨cF,hF,wF⟩:=wD.firm_sub hD;refine ZVT hF wF ?_;refine ZD (λe=>?_) λe=>?_
 .rw [if_pos (by simpa using e)] at hq;exact hq h ⟨C,wc,a'⟩
 rw [if_neg (by simpa using e)] at hq;refine ZLh (ZD (λe=>?_) λe=>?_)
 .rw [if_pos (by simpa using e)] at hq;exact hq h ⟨C,wc,a'⟩
 rw [if_neg (by simpa using e)] at hq;have a:Has k b who c h l:=⟨C,wc,a'⟩
 have hc4:=i.c4;have hl2:=i.l2;refine ZF (cd:=cI .i64) (x:=c.d.ask) a.ob (i:=15) rfl ?_;refine a.ldWho ?_;refine ZF (cd:=cI .i64) (x:=c.d.now) a.ob (i:=4) rfl ?_;refine ZF (cd:=cP) (x:=k.pa) a.ob (i:=8) rfl ?_;rw [w64 (n:=c.d.ask+1) (by omega) (by omega)];obtain ⟨ca,R,o3,w3,cl⟩:=a'.asks;refine ZWq (x:=Z9 c who m) o3 w3 i.sa (λy hy=>by have:=(i.ai y hy).1; show y.ID<c.d.ask+1; omega) (by omega) λc4 h4 o4 w4=>?_;have a4:=cl h4 c4 _ _ o4 w4;refine ZD (λe=>?_) λe=>?_
 .have e:(ZIg c.d.asks (Z9 c who m)).2≠0:=by simpa using e
  rw [if_pos e] at hq;rw [ZSJ e] at a4;exact hq h4 ⟨C,wc,a4⟩
 rw [if_neg (by simpa using e)] at hq;have a4:Has k b who {c with d:={c.d with asks:=(ZIg c.d.asks (Z9 c who m)).1}} h4 l:=⟨C,wc,a4⟩
 refine ZF (cd:=cI .i64) (x:=c.d.ask) a4.ob (i:=15) rfl ?_;rw [w64 (n:=c.d.ask+1) (by omega) (by omega)];refine a4.setAsk λh5 a5=>?_;refine ZF (cd:=cI .i64) (x:=c.d.ask+1) a5.ob (i:=15) rfl ?_;refine a5.setId λh6 a6=>?_;refine ZF (cd:=cP) (x:=k.pd) a6.ob (i:=9) rfl ?_;obtain ⟨C6,wc6,a6⟩:=a6;refine Zu.addDue (x:=⟨IntKind.i64.wrap (c.d.now+m.F_4),1,c.d.ask+1⟩) a6 (i.due hN) λt h7 a7=>?_;have hpl:k.sp.len=c.d.parties.length:=by obtain ⟨D,hD,wD⟩:=a7.dsub;obtain ⟨dP,_,wP⟩:=wD.parties_sub hD;exact wP.1
 have a7:Has k b who (ZQC c (Z9 c who m)) h7 l:=⟨C6,wc6,a7⟩
 have h8:=i.pl;refine ZF (cd:=cSl) (x:=k.sp) a7.ob (i:=1) rfl ?_;refine Zb (λz h'=>∃ j:Nat,z=(j:Int)/\j<=c.d.parties.length/\Has k b who ((List.range j).foldl (ZBf (Z9 c who m)) (ZQC c (Z9 c who m))) h' l) (λz=>c.d.parties.length-z.toNat) ⟨0,rfl,Nat.zero_le _,a7⟩ ?_;rintro J z h9 again ⟨j,rfl,hj,a9⟩
 refine ZJ (λhlt=>?_) λhge=>?_
 ·have hd:=ZGu (Z9 c who m) (List.range j) (ZQC c (Z9 c who m));have ho1:(ZQC c (Z9 c who m)).outs=c.outs:=rfl;rw [ho1,List.length_range] at hd;have est:(List.range (j+1)).foldl (ZBf (Z9 c who m)) (ZQC c (Z9 c who m))=ZBf (Z9 c who m) ((List.range j).foldl (ZBf (Z9 c who m)) (ZQC c (Z9 c who m))) j:=by rw [List.range_succ,List.foldl_append]; rfl
  generalize (List.range j).foldl (ZBf (Z9 c who m)) (ZQC c (Z9 c who m))=cj at*;rw [ZAQ (by omega)];refine ZN (λ_ h'=>Has k b who (ZBf (Z9 c who m) cj j) h' l) ?_ λJ2 hJ2=>?_
  .rintro _ h' a';exact again _ _ ⟨j+1,rfl,by omega,by rw [est]; exact a'⟩ (by omega)
  .refine ⟨Int.natCast_nonneg j,?_⟩;unfold ZBf at hJ2;refine ZD (λe=>?_) λe=>?_
   .have e:ZDH .u64 (ZBT .u64 (Z9 c who m).Dealers (j:Int)) 1=1:=by show ZDH .u64 (ZBT .u64 (IntKind.u64.wrap m.F_3) (j:Int)) 1=1;simpa using e
    rw [if_pos e] at hJ2;exact ZBv (ns:=[c.d.ask+1,m.F_0,m.F_1,m.F_2,IntKind.i64.wrap (c.d.now+m.F_4)]) a9 (by simp) (by omega) λh10 a10=>hJ2 _ _ a10
   .have e:¬ZDH .u64 (ZBT .u64 (Z9 c who m).Dealers (j:Int)) 1=1:=by have:(ZDH .u64 (ZBT .u64 (IntKind.u64.wrap m.F_3) (j:Int)) 1==1)=false:=e;show ¬ZDH .u64 (ZBT .u64 (IntKind.u64.wrap m.F_3) (j:Int)) 1=1;simpa using this
    rw [if_neg e] at hJ2;exact hJ2 _ _ a9
 .have:j=c.d.parties.length:=by omega
  subst this;exact hq h9 a9
theorem ZNO (i:WOk N S) (a:Ask):ZCz S a=ZM0\/ZCz S a∈S.quotes:=by
 unfold ZCz;cases hg:getQ S.quotes a.Hit with
 | none=>exact .inl rfl
 | some q=>exact .inr (ZJu hg).1
theorem ZUr {m:Msg} (a:Has k b who c h l) (i:WOk N c.d) (hN:N≤10000) (ho:c.outs.length≤500000) {Q:Int→Hp→Prop} (hq:∀ h',Has k b who (ZDt c who m).1 h' l→Q (ZDt c who m).2 h'):
 ZA TP 134 [Value.pointer k.p,Value.pointer (some ⟨b,0,none⟩),ZAn.enc m] (cI .i64) h Q:=by
 refine c134 ?_;unfold F134;unfold ZDt at hq;dsimp only [ZR,DK.p];refine ⟨by decide,by decide,?_⟩;refine ZF (cd:=cP) (x:=k.pa) a.ob (i:=8) rfl ?_;obtain ⟨C,wc,a⟩:=a;refine a.getA i hN λh2 a2=>?_;have a2':Has k b who c h2 l:=⟨C,wc,a2⟩
 cases hg:getA c.d.asks m.F_0 with
 | none=>
   rw [hg] at hq;exact Zh rfl (hq h2 a2')
 | some x=>
   rw [hg] at hq;dsimp only at hq;obtain ⟨hb1,hb2,hc1,hc2⟩:=ZFc i (ZDp hg).1;have hx:=i.ai x (ZDp hg).1;dsimp only [ZLF];refine ZT rfl ?_;refine ZD (λe=>?_) λe=>?_
   .rw [if_pos (by simpa using e)] at hq;exact hq h2 a2'
   rw [if_neg (by simpa using e)] at hq;refine ZF (cd:=cP) (x:=k.pq) a2.ob (i:=7) rfl ?_;refine a2.getQ i hN λh3 a3=>?_;have a3:Has k b who c h3 l:=⟨C,wc,a3⟩
   have hh:=ZNO i x;have hp:(ZCz c.d x).Price<=1000000/\0<=(ZCz c.d x).Price/\0<=(ZCz c.d x).Dealer/\(ZCz c.d x).Dealer<8:=by
    rcases hh with e|e
    .rw [e]; exact ⟨by decide,by decide,by decide,by decide⟩
    .have:=i.qi _ e; omega
   have eq0:(ZLF ZM0 (getQ c.d.quotes x.Hit)).1=ZCz c.d x:=rfl;rw [eq0];generalize ZCz c.d x=q at*;refine a3.ldWho ?_;refine ZD (λe=>?_) λe=>?_
   .rw [if_pos (by simpa using e)] at hq;exact hq h3 a3
   rw [if_neg (by simpa using e)] at hq;refine a3.setId λh4 a4=>?_;refine ZD (λe=>?_) λe=>?_
   .rw [if_pos (by simpa using e)] at hq;refine ZF (cd:=cP) (x:=k.pd) a4.ob (i:=9) rfl ?_;obtain ⟨C4,wc4,a4⟩:=a4;refine a4.dropDue (i.due hN) λt h5 a5=>?_;exact ZHi (c:={c with id:=x.ID}) (x:=x) ⟨C4,wc4,a5⟩ i hN (by show c.outs.length<=_; omega) λh6 a6=>hq h6 a6
   rw [if_neg (by simpa using e)] at hq;obtain ⟨C4,wc4,a4⟩:=a4;refine ZIV (x:=x) (q:=q) a4 i hb1 hp.1 hb2 λh5 a5=>?_;refine ZD (λe=>?_) λe=>?_
   .rw [if_pos (by simpa using e)] at hq;exact hq h5 ⟨C4,wc4,a5⟩
   rw [if_neg (by simpa using e)] at hq;refine ZF (cd:=cP) (x:=k.pf) a5.ob (i:=6) rfl ?_;obtain ⟨cF,R,o6,w6,cl⟩:=a5.firm;refine ZYa (who:=q.Dealer) (price:=q.Price) (qty:=x.Qty) o6 w6 hp.1 hb2 λc7 h7 o7 w7=>?_;have a7:=cl h7 c7 _ _ o7 w7;refine ZD (λe=>?_) λe=>?_
   .have e:(ZJx c.d.parties c.d.used q.Dealer q.Price x.Qty).2≠0:=by simpa using e
    rw [if_pos e] at hq;rw [ZRi e] at a7;exact hq h7 ⟨C4,wc4,a7⟩
   rw [if_neg (by simpa using e)] at hq;refine ZF (cd:=cP) (x:=k.pa) a7.ob (i:=8) rfl ?_;have i7:=i.used (ZJx c.d.parties c.d.used q.Dealer q.Price x.Qty).1;refine ZWD a7 i7 hN λn8 h8 a8=>?_;refine ZM9 a8 (i7.end x.ID 3) hN λh9 a9=>?_;have a9:Has k b who (ZTb {c with d:={c.d with used:=(ZJx c.d.parties c.d.used q.Dealer q.Price x.Qty).1},id:=x.ID} x.ID 3) h9 l:=⟨C4,wc4,a9⟩
   refine ZBv (ns:=[x.ID,q.Price]) a9 (by simp) (by show c.outs.length<=_; omega) λh10 a10=>?_;have hl4:=i.l4;refine ZLf (t:=⟨0,x.Bond,0,0,q.Price,x.Qty,x.ID,0⟩) a10 ?_ (by show c.d.trades.length<=_; omega) (by simp [ZBQ,ZTb]; omega) λh11 a11=>hq h11 a11;have hnow:=i.now;have hc4:=i.c4;have hbl:=i.bl4;unfold ZCx ZBI I64;unfold I64 at hnow;have e1:(ZBQ (ZTb {c with d:={c.d with used:=(ZJx c.d.parties c.d.used q.Dealer q.Price x.Qty).1},id:=x.ID} x.ID 3) x.Client 26 [x.ID,q.Price]).d.now=c.d.now:=rfl;rw [e1];dsimp only;refine ⟨by omega,by omega,?_,?_,by omega,by omega,by omega,by omega⟩
   .split<;>omega
   .split<;>omega
end
section
variable {k:DK} {S:DS} {b:Nat} {who:Int} {c:DC} {h:Hp} {l:List Hp} {N:Nat}
theorem ZKq {ps:List ZAa} {kind:Int} (h:ZZA (ZIF ps who) kind=true):0≤who∧who<ps.length:=by
 cases hp:ZDw ps who with
 | none=>
   rw [ZGC hp] at h;unfold ZZA at h;split at h
   .cases h
   .split at h
    .cases h
    .split at h
     .cases h
     .simp at h
 | some x=>
   have:=ZGm hp;exact ⟨this.1,this.2.1⟩
theorem ZM5 (i:WOk N S) {m:Msg} (h:ZV3 S who m=true):0<=who/\who<8:=by unfold ZV3 at h;simp only [Bool.and_eq_true] at h;have:=ZKq h.2.2;have:=i.pl;omega
theorem ZXS {m:Msg} (a:Has k b who c h l) (i:WOk N c.d) (hN:N≤9000) (ho:c.outs.length≤500000) {Q:Int→Hp→Prop} (hq:∀ h',Has k b who (ZAp c who m).1 h' l→Q (ZAp c who m).2 h'):
 ZA TP 78 [Value.pointer k.p,Value.pointer (some ⟨b,0,none⟩),ZAn.enc m] (cI .i64) h Q:=by
 refine c78 ?_;unfold F78;unfold ZAp at hq;refine ZN (λt h'=>Has k b who c h' l/\t=!ZV3 c.d who m) ?_ λJ hJ=>?_
 ·rintro t h1 ⟨a1,rfl⟩;refine ZD (fun e=>?_) fun e=>?_
  .rw [if_pos (by simpa using e)] at hq;exact hq h1 a1
  have e:ZV3 c.d who m=true:=by simpa using e
  have hw:=ZM5 i e;rw [if_neg (by rw [e]; simp)] at hq;refine ZN (λt h'=>h'=h1/\t=decide (m.Kind=6\/m.Kind=7\/m.Kind=8)) ?_ λJ hJ=>?_
  ·rintro t h' ⟨rfl,rfl⟩;refine ZJ (fun hk=>?_) fun hk=>?_
   .rw [if_pos hk] at hq;exact ZRh a1 i hN hw ho hq
   rw [if_neg hk] at hq;refine ZN (λt h2=>h2=h'/\t=decide (m.Kind=10\/m.Kind=11)) ?_ λJ hJ=>?_
   ·rintro t h' ⟨rfl,rfl⟩;refine ZJ (fun hk=>?_) fun hk=>?_
    .rw [if_pos hk] at hq;exact ZQK a1 i (by omega) hw (by omega) hq
    rw [if_neg hk] at hq;refine ZN (λt h2=>h2=h'/\t=decide (m.Kind=12\/m.Kind=13)) ?_ λJ hJ=>?_
    .rintro t h' ⟨rfl,rfl⟩;refine ZJ (λhk=>?_) λhk=>?_
     .rw [if_pos hk] at hq;exact ZXE a1 i (by omega) (by omega) hq
     rw [if_neg hk] at hq;refine ZN (λt h2=>h2=h'/\t=decide (m.Kind=14\/m.Kind=15)) ?_ λJ hJ=>?_
     .rintro t h' ⟨rfl,rfl⟩;refine ZJ (λhk=>?_) λhk=>?_
      .rw [if_pos hk] at hq;exact ZUr a1 i (by omega) ho hq
      rw [if_neg hk] at hq;refine ZD (λhk=>?_) λhk=>?_
      .rw [if_pos (by simpa using hk)] at hq;exact ⟨by decide,by decide,ZXA a1 i (by omega) (by omega) hq⟩
      rw [if_neg (by simpa using hk)] at hq;refine ZD (λhk=>?_) λhk=>?_
      .rw [if_pos (by simpa using hk)] at hq;exact ZPf a1 i (by omega) hw ho hq
      rw [if_neg (by simpa using hk)] at hq;exact ⟨by decide,by decide,by decide,by decide,ZXx a1 i hq⟩
     .refine ZD (λe=>hJ _ _ ⟨rfl,?_⟩) λe=>hJ _ _ ⟨rfl,?_⟩;all_goals (rw [Bool.eq_iff_iff]; simp_all)
    .refine ZD (λe=>hJ _ _ ⟨rfl,?_⟩) λe=>hJ _ _ ⟨rfl,?_⟩;all_goals (rw [Bool.eq_iff_iff]; simp_all)
   .refine ZD (λe=>hJ _ _ ⟨rfl,?_⟩) λe=>hJ _ _ ⟨rfl,?_⟩;all_goals (rw [Bool.eq_iff_iff]; simp_all)
  .refine ZD (λe=>hJ _ _ ⟨rfl,?_⟩) λe=>ZD (λe2=>hJ _ _ ⟨rfl,?_⟩) λe2=>hJ _ _ ⟨rfl,?_⟩;all_goals (rw [Bool.eq_iff_iff]; simp_all)
 ·unfold ZV3 at hJ;refine ZZE ?_;refine ZD (fun e=>hJ _ _ ⟨a,?_⟩) fun e=>?_
  .have e:decide (6<=m.Kind/\m.Kind<=17)=false:=by
    cases h:decide (6<=m.Kind/\m.Kind<=17) with
    | false=>rfl
    | true=>rw [h] at e; cases e
   rw [e]; rfl
  have e:decide (6<=m.Kind/\m.Kind<=17)=true:=by
   cases h:decide (6<=m.Kind/\m.Kind<=17) with
   | true=>rfl
   | false=>rw [h] at e; cases e
  rw [e] at hJ;obtain ⟨C,wc,D,o,w⟩:=a;refine ZXQ o λh2 o2=>?_;have a2:Has k b who c h2 l:=⟨C,wc,D,o2,w⟩
  refine ZD (λe2=>hJ _ _ ⟨a2,?_⟩) λe2=>?_
  .have e2:isV m=false:=by simpa using e2
   rw [e2]; rfl
  have e2:isV m=true:=by simpa using e2
  rw [e2] at hJ;dsimp only [ZR,DK.p];refine ZF (cd:=cP) (x:=k.pf) a2.ob (i:=6) rfl ?_;refine a2.ldWho ?_;obtain ⟨cF,hF,wF⟩:=w.firm_sub (o2.mem (by simp));refine ZYz hF wF (hJ _ _ ⟨a2,?_⟩);simp
theorem ZKC {seq:Int} {m:Msg} (a:Zu k S h l) (i:WOk N S) (hN:N<=9000) {Q:Sl->Hp->Prop} (hlo:(ZAp (ZEf S) who m).1.outs.length<=1000000) (hq:∀ s d h',Zu k (doD S who seq m).1 h' (d::l)->Own ZCJ d s (doD S who seq m).2->Q s h'):
 ZA TP 49 [Value.pointer k.p,Value.int .i64 who,Value.int .i64 seq,ZAn.enc m] cSl h Q:=by
 refine c49 ?_;unfold F49;unfold doD at hq;refine ZT rfl ?_;refine a.new λk1 h1 a1=>?_;obtain ⟨D,o1,w1⟩:=a1;obtain ⟨o2,o3⟩:=On.joined (cs:=[Go.Eng.ob k1 [Value.int .i64 who,Value.int .i64 0,Value.slice none 0 0] 191,Hp.emp]) (l:=D::l) ((o1.emp).pick [2,0,1] 3 (by decide) (by decide));have a2:Has k k1 who (ZEf S) h1 l:=⟨_,⟨⟨none,0,0⟩,Hp.emp,o3,Own.nil _⟩,D,o2.swap,w1⟩
 refine ZXS a2 i hN (Nat.zero_le _) λh4 a4=>?_;generalize ZAp (ZEf S) who m=r at hq a4 hlo;obtain ⟨C,⟨s,d,oc,wd⟩,a4⟩:=a4;refine ZD (λe=>?_) λe=>?_
 .rw [if_pos (by simpa using e)] at hq;refine a4.drop.new λk5 h5 a5=>?_;obtain ⟨D5,o5,w5⟩:=a5;refine ZNn (g:=Go.Eng.ob k5 [Value.int .i64 seq,Value.int .i64 r.2] 2) (s:=⟨some ⟨k5,0,none⟩,2,2⟩) (ns:=[seq,r.2]) o5 (Ze (by rfl) rfl) (by simp) (by simp) λh6 o6=>?_;refine ZH (vs:=(ZCJ.enc (ZEb who 19 [seq,r.2])).cells.toList) o6 λk7 h7 o7=>?_;exact hq ⟨some ⟨k7,0,none⟩,1,1⟩ _ h7 ⟨D5,o7.pick [1,0] 3 (by decide) (by decide),w5⟩ (ZBN (rest:=[]) (by rfl) rfl (by simp))
 .rw [if_neg (by simpa using e)] at hq;have hC:=a4.sub (g:=C) (by simp);have hob:(Go.Eng.ob k1 [Value.int .i64 who,Value.int .i64 r.1.id,sv s] 191).sub h4:=Hp.sub_trans (oc.mem (by simp)) hC;refine ZF (cd:=cI .i64) (x:=r.1.id) hob (i:=1) rfl ?_;refine ZF (cd:=cSl) (x:=s) hob (i:=2) rfl ?_;refine a4.new λk5 h5 a5=>?_;obtain ⟨D5,o5,w5⟩:=a5;refine ZNn (g:=Go.Eng.ob k5 [Value.int .i64 seq,Value.int .i64 r.1.id] 2) (s:=⟨some ⟨k5,0,none⟩,2,2⟩) (ns:=[seq,r.1.id]) o5 (Ze (by rfl) rfl) (by simp) (by simp) λh6 o6=>?_;have hob6:(Go.Eng.ob k1 [Value.int .i64 who,Value.int .i64 r.1.id,sv s] 191).sub h6:=Hp.sub_trans (oc.mem (by simp)) (o6.mem (c:=C) (by simp));refine ⟨⟨Hp.sub_rds hob6 (ZCS (i:=2) rfl),trivial⟩,?_⟩;refine ZH (vs:=(ZCJ.enc (ZEb who 18 [seq,r.1.id])).cells.toList) o6 λk7 h7 o7=>?_;have w7:Own ZCJ (Go.Eng.ob k7 (ZCJ.enc (ZEb who 18 [seq,r.1.id])).cells.toList 78) ⟨some ⟨k7,0,none⟩,1,1⟩ [ZEb who 18 [seq,r.1.id]]:=ZBN (rest:=[]) (by rfl) rfl (by simp);have hdC:d.sub h7:=Hp.sub_trans (oc.mem (c:=d) (by simp)) (o7.mem (c:=C) (by simp));have o8:On h7 (Go.Eng.ob k7 (ZCJ.enc (ZEb who 18 [seq,r.1.id])).cells.toList 78::D5::l):=o7.pick [0,1] 4 (by decide) (by decide);refine ZU (cd:=ZCJ) (g:=d) (s:=⟨some ⟨k7,0,none⟩,1,1⟩) (t:=s) (ys:=r.1.outs) o8 rfl w7 (by decide) wd.row hdC ?_ λd9 p n m h9 o9 w9=>?_
  .refine Nat.le_trans (Nat.mul_le_mul_right _ (show _<=1000001 from ?_)) (by decide);show 1+r.1.outs.length<=_;omega
  .exact hq ⟨p,n,m⟩ d9 h9 ⟨D5,o9.swap,w5⟩ w9
end
def ZCZ (who:Int) (st:List ZE×List Out) (o:ZE):List ZE×List Out:=if o.Owner=who then (ZBC st.1 o.ID,st.2++[ZEb who 21 [o.ID,o.Left]]) else st
def ZAU (who s:Int) (st:List ZE×List Out):List ZE×List Out:=(ZBB st.1 s).foldl (ZCZ who) st
def ZAA (who:Int) (st:List ZE×List Out):List ZE×List Out:=ZAU who 2 (ZAU who 1 st)
def ZAN (who:Int) (acc:List (List ZE)×List Out) (b:List ZE):List (List ZE)×List Out:=(acc.1++[(ZAA who (b,acc.2)).1],(ZAA who (b,acc.2)).2)
def ZBx (who:Int) (bs:List (List ZE)):List (List ZE)×List Out:=bs.foldl (ZAN who) ([],[])
def goneQ (S:DS) (q:Za):DS:=if ZFN S q=true then S else {S with quotes:=killQ S.quotes q.ID}
def ZAW (S:DS) (who:Int):DS×List Out:=((S.quotes.filter (ofQ who)).foldl goneQ {S with books:=(ZBx who S.books).1},(ZBx who S.books).2)
theorem ZHO (who:Int):∀ (os:List ZE) (st:List ZE×List Out),(os.foldl (ZCZ who) st).1.Sublist st.1∧(os.foldl (ZCZ who) st).2.length≤st.2.length+os.length
 | [],st=>⟨List.Sublist.refl _,Nat.le_refl _⟩
 | o::os,st=>by
   have h:=ZHO who os (ZCZ who st o);have h1:(ZCZ who st o).1.Sublist st.1/\(ZCZ who st o).2.length<=st.2.length+1:=by
    unfold ZCZ;split
    .exact ⟨Zy _ _,by simp⟩
    .exact ⟨List.Sublist.refl _,by omega⟩
   rw [List.foldl_cons,List.length_cons];exact ⟨h.1.trans h1.1,by omega⟩
theorem ZCO (who s:Int) (st:List ZE×List Out):(ZAU who s st).1.Sublist st.1/\(ZAU who s st).2.length<=st.2.length+st.1.length:=by have:=ZHO who (ZBB st.1 s) st;have h:=ZCm st.1 s;unfold ZAU;exact ⟨this.1,by omega⟩
theorem ZBi (who:Int) (st:List ZE×List Out):(ZAA who st).1.Sublist st.1/\(ZAA who st).2.length<=st.2.length+2*st.1.length:=by have h1:=ZCO who 1 st;have h2:=ZCO who 2 (ZAU who 1 st);have:=h1.1.length_le;unfold ZAA;exact ⟨h2.1.trans h1.1,by omega⟩
section
variable {k:DK} {S:DS} {b:Nat} {who:Int} {c:DC} {h:Hp} {l:List Hp} {N:Nat}
theorem ZS4 {to kind id:Int} {ns:List Int} {outs:List Out} {C:Hp} (o:On h (C::l)) (wc:ZEq b who id outs C) (hn:ns.length<=6) (hl:outs.length<=1000000) {Q:PUnit->Hp->Prop} (hq:∀ C' h',On h' (C'::l)->ZEq b who id (outs++[ZEb to kind ns]) C'->Q ⟨⟩ h'):
 ZM (.cells (ZG (cI .i64) ns).toArray 2 (0,0)) h λk1 h1=>ZA TP 86 [Value.pointer (some ⟨b,0,none⟩),Value.int .i64 to,Value.int .i64 kind,Value.slice (some ⟨k1,0,none⟩) ns.length ns.length] (ZW []) h1 Q:=by
 refine ZH o λk0 h0 o0=>?_;obtain ⟨s1,d,oc,wd⟩:=wc;refine c86 (p3:=⟨some ⟨k0,0,none⟩,ns.length,ns.length⟩) ?_;unfold F86;have o1:On h0 (Go.Eng.ob b [Value.int .i64 who,Value.int .i64 id,sv s1] 191::d::Go.Eng.ob k0 (ZG (cI .i64) ns) 2::l):=o0.swap.split oc;dsimp only [ZR];refine ZI (x:=s1) o1 0 (i:=2) rfl rfl ?_;refine ZNn (g:=Go.Eng.ob k0 (ZG (cI .i64) ns) 2) (s:=⟨some ⟨k0,0,none⟩,ns.length,ns.length⟩) o1 (Ze rfl rfl) (by simp) hn λh2 o2=>?_;refine ⟨⟨Hp.sub_rds (o2.get (i:=0) rfl) (ZCS (i:=2) rfl),trivial⟩,?_⟩;refine ZH o2 λk3 h3 o3=>?_;refine ZU (cd:=ZCJ) (g:=Go.Eng.ob k3 (ZCJ.enc (ZEb to kind ns)).cells.toList 78) (s:=s1) (t:=⟨some ⟨k3,0,none⟩,1,1⟩) (ys:=[ZEb to kind ns]) (o3.rot3) rfl wd (by decide) (Ze (by rfl) rfl) (o3.get (i:=0) rfl) ?_ λd4 p n m h4 o4 w4=>?_
 .rw [List.length_singleton];exact Nat.le_trans (Nat.mul_le_mul_right _ (show _<=1000001 by omega)) (by decide)
 .refine ZZ (cd:=cSl) (i:=2) (x:=⟨p,n,m⟩) (vs':=[Value.int .i64 who,Value.int .i64 id,sv ⟨p,n,m⟩]) (o4.rot3) rfl rfl (by show 2+1<=3; omega) λh5 o5=>?_;have o6:On h5 (Go.Eng.ob b [Value.int .i64 who,Value.int .i64 id,sv ⟨p,n,m⟩] 191::d4::l):=o5.pick [0,1] 4 (by decide) (by decide);obtain ⟨o7,o8⟩:=On.joined (cs:=[Go.Eng.ob b [Value.int .i64 who,Value.int .i64 id,sv ⟨p,n,m⟩] 191,d4]) (l:=l) o6;exact hq _ h5 o7 ⟨_,d4,o8,w4⟩
theorem ZL5 {s:Int} {q:Option Addr} {xs:List ZE} {outs:List Out} {cb R C:Hp} {m:Int} (o:On h (cb::C::R::l)) (w:Zk q xs cb) (wc:ZEq b 0 0 outs C) (hb:ZAo m xs) (hl:outs.length≤900000) {K:Hp→Prop}
 (hK:∀ cb' C' h',On h' (cb'::C'::R::l)->Zk q (ZAU who s (xs,outs)).1 cb'->ZEq b 0 0 (ZAU who s (xs,outs)).2 C'->K h'):
 ZA TP 20 [Value.pointer q,Value.int .i64 s] cSl h fun s2 h5=>Zj (0:Int) h5 fun (J3:Int→Hp→Prop) n4 h6=>ZB (decide (n4<(s2.len:Int)))
   (ZY (fun (u1:PUnit) h7=>J3 (IntKind.i64.wrap (n4+1)) h7) fun J4=>Zl s2.a s2.len n4 fun a4=>ZC ZK (a4.add (n4.toNat*6)) h6 fun x1=>ZB (x1.Owner==who)
     (ZA TP 85 [Value.pointer q,Value.int IntKind.i64 x1.ID] (ZW [ZK,cB]) h6 λz1 h8=>ZM (Obj.cells {toList:=[Value.int IntKind.i64 x1.ID,Value.int IntKind.i64 x1.Left]} 2) h8 λk3 h9=>
       ZA TP 86 [Value.pointer (some {block:=b,off:=0}),Value.int IntKind.i64 who,Value.int IntKind.i64 21,Value.slice (some {block:=k3,off:=0}) 2 2] (ZW []) h9 λu2 h10=>J4 PUnit.unit h10)
     (J4 PUnit.unit h6)) (K h6):=by
 refine ZFl o w hb.1 (by have:=hb.2.2.1; omega) λs2 c2 d2 h2 o2 w2 wd=>?_;have hlen:=wd.1;have hsl:=ZCm xs s;have hxl:=hb.2.2.1;unfold ZAU at hK;dsimp only at hK;generalize hys:ZBB xs s=ys at*;refine Zb (λz h'=>∃ (j:Nat) (cb C:Hp),z=(j:Int)/\j<=ys.length/\On h' (cb::C::d2::R::l)/\Zk q ((ys.take j).foldl (ZCZ who) (xs,outs)).1 cb/\ZEq b 0 0 ((ys.take j).foldl (ZCZ who) (xs,outs)).2 C) (λz=>ys.length-z.toNat)
  ⟨0,c2,C,rfl,Nat.zero_le _,o2.pick [0,2,1] 3 (by decide) (by decide),w2,wc⟩ ?_
 rintro J z h3 again ⟨j,cb3,C3,rfl,hj,o3,w3,wc3⟩
 refine ZJ (λhlt=>?_) λhge=>?_
 .have hj':j<ys.length:=by omega
  have a0:ys[j]?=some ys[j]:=List.getElem?_eq_getElem hj';have est:=Z7 (ZCZ who) (xs,outs) ys a0;have hsub:=ZHO who (ys.take j) (xs,outs);have hs1:=hsub.1.length_le;have hs2:=hsub.2;rw [List.length_take] at hs2;dsimp only at hs1 hs2;generalize (ys.take j).foldl (ZCZ who) (xs,outs)=st at*;rw [ZAQ (by omega)];refine ZN (λ_ h'=>∃ cb C,On h' (cb::C::d2::R::l)/\Zk q (ZCZ who st ys[j]).1 cb/\ZEq b 0 0 (ZCZ who st ys[j]).2 C) ?_ λJ4 hJ4=>?_
  .rintro _ h' ⟨cb4,C4,o4,w4,wc4⟩;exact again _ _ ⟨j+1,cb4,C4,rfl,by omega,o4,by rw [est]; exact w4,by rw [est]; exact wc4⟩ (by omega)
  .refine ZL wd.row (Int.natCast_nonneg j) (by omega) λp hp=>ZO wd.row (o3.mem (by simp)) rfl hp (i:=j) a0 (by rfl) ?_;unfold ZCZ at hJ4;refine ZD (λe=>?_) λe=>?_
   .rw [if_pos (by simpa using e)] at hJ4;refine ZFu o3 w3 (by omega) λc5 h5 o5 w5=>?_;refine ZS4 (ns:=[ys[j].ID,ys[j].Left]) o5.swap wc3 (by simp) (by omega) λC6 h6 o6 w6=>?_;exact hJ4 _ _ ⟨c5,C6,o6.swap,w5,w6⟩
   .rw [if_neg (by simpa using e)] at hJ4;exact hJ4 _ _ ⟨cb3,C3,o3,w3,wc3⟩
 .have:j=ys.length:=by omega
  subst this;rw [List.take_length] at w3 wc3;exact hK cb3 C3 h3 (o3.pick [0,1,3] 4 (by decide) (by decide)) w3 wc3
end
def ZLB (who:Int) (st:List ZE×List Out):Nat->List ZE×List Out
 | 0=>st
 | 1=>ZAU who 1 st
 | _=>ZAA who st
theorem ZPY (who:Int) (st:List ZE×List Out) (t:Nat):(ZLB who st t).1.Sublist st.1/\(ZLB who st t).2.length<=st.2.length+2*st.1.length:=by
 unfold ZLB;split
 .exact ⟨List.Sublist.refl _,by omega⟩
 .have:=ZCO who 1 st;exact ⟨this.1,by omega⟩
 .exact ZBi who st
theorem ZEy (who:Int):∀ (bs:List (List ZE)) (acc:List (List ZE)×List Out),(bs.foldl (ZAN who) acc).1.length=acc.1.length+bs.length
 | [],acc=>rfl
 | b::bs,acc=>by rw [List.foldl_cons,ZEy who bs];simp [ZAN];omega
section
variable {k:DK} {S:DS} {b:Nat} {who:Int} {c:DC} {h:Hp} {l:List Hp} {N:Nat}
theorem WOk.goneQ {q:Za} (i:WOk N S):WOk N (Go.Proofs.YtkmniidiifpdgaaGreat.goneQ S q):=by
 unfold Go.Proofs.YtkmniidiifpdgaaGreat.goneQ;split
 .exact i
 .exact i.kill q.ID
theorem ZHN (a:Zu k S h l) (i:WOk N S) (hN:N≤10000) {Q:Sl→Hp→Prop} (hq:∀ s d h',Zu k (ZAW S who).1 h' (d::l)→Own ZCJ d s (ZAW S who).2→WOk N (ZAW S who).1→(ZAW S who).2.length≤1000→Q s h'):
 ZA TP 51 [Value.pointer k.p,Value.int .i64 who] cSl h Q:=by
 refine c51 ?_;unfold F51;refine ZT rfl ?_;refine a.new λk1 h1 a1=>?_;have hbl:=i.bl4;have hskl:k.sk.len=S.books.length:=by obtain ⟨D,o,dB,dP,dK,cF,cQ,cA,cD,cO,cT,ks,cs,oc,wB,wP,wK,wF,wQ,wA,wD,wO,wT,wb⟩:=a;rw [<-wb.1]; exact wK.1
 obtain ⟨D,o1,w1⟩:=a1;obtain ⟨o2,o3⟩:=On.joined (cs:=[Go.Eng.ob k1 [Value.int .i64 0,Value.int .i64 0,Value.slice none 0 0] 191,Hp.emp]) (l:=D::l) ((o1.emp).pick [2,0,1] 3 (by decide) (by decide));have wc:ZEq k1 0 0 [] _:=⟨⟨none,0,0⟩,Hp.emp,o3,Own.nil _⟩
 have a2:Zu k S h1 (_::l):=⟨D,o2.swap,w1⟩
 dsimp only [ZR,DK.p];refine ZF (cd:=cSl) (x:=k.sk) a2.ob (i:=5) rfl ?_;refine Zb (λz h'=>∃ (j:Nat) (C:Hp),z=(j:Int)/\j<=S.books.length/\ZEq k1 0 0 ((S.books.take j).foldl (ZAN who) ([],[])).2 C/\Zu k {S with books:=((S.books.take j).foldl (ZAN who) ([],[])).1++S.books.drop j} h' (C::l)/\
  WOk N {S with books:=((S.books.take j).foldl (ZAN who) ([],[])).1++S.books.drop j}/\((S.books.take j).foldl (ZAN who) ([],[])).2.length<=128*j) (λz=>S.books.length-z.toNat)
  ⟨0,_,rfl,Nat.zero_le _,wc,a2,i,Nat.le_refl _⟩ ?_
 rintro J z h2 again ⟨j,C,rfl,hj,wc,a3,i3,hol⟩
 refine ZJ (λhlt=>?_) λhge=>?_
 ·have hj':j<S.books.length:=by omega
  have a0:S.books[j]?=some S.books[j]:=List.getElem?_eq_getElem hj';have est:=Z7 (ZAN who) ([],[]) S.books a0;have hal:=ZEy who (S.books.take j) ([],[]);rw [List.length_take] at hal;have hbk:=i.books _ (List.getElem_mem hj');generalize (S.books.take j).foldl (ZAN who) ([],[])=acc at*;have hal:acc.1.length=j:=by simp at hal; omega
  have hlt3:j<(acc.1++S.books.drop j).length:=by rw [List.length_append,List.length_drop]; omega
  have hget:(acc.1++S.books.drop j)[j]=S.books[j]:=by rw [List.getElem_append_right (by omega)];simp [hal]
  obtain ⟨_,cb,R,q,o4,w4,hld,cl⟩:=a3.book2 (i:=j) hlt3;have hget':({S with books:=acc.1++S.books.drop j}:DS).books[j]=S.books[j]:=hget;rw [hget'] at w4;refine hld ?_;refine ZH o4 λk2 h5 o5=>?_;have o5:On h5 (cb::C::R::Go.Eng.ob k2 [Value.int .i64 1,Value.int .i64 2] 3::l):=o5.pick [1,3,2,0] 4 (by decide) (by decide);refine Zb (λz h'=>∃ (t:Nat) (cb C:Hp),z=(t:Int)/\t<=2/\On h' (cb::C::R::Go.Eng.ob k2 [Value.int .i64 1,Value.int .i64 2] 3::l)/\Zk q (ZLB who (S.books[j],acc.2) t).1 cb/\ZEq k1 0 0 (ZLB who (S.books[j],acc.2) t).2 C) (λz=>2-z.toNat)
   ⟨0,cb,C,rfl,by omega,o5,w4,wc⟩ ?_
  rintro J2 z h6 again2 ⟨t,cb6,C6,rfl,ht,o6,w6,wc6⟩;have hsub:=ZPY who (S.books[j],acc.2) t;have hxl:=hbk.2.2.1;refine ZJ (λhlt2=>?_) λhge2=>?_
  .have ht2:t<2:=by omega
   have hrow:Row (cI .i64) (Go.Eng.ob k2 [Value.int .i64 1,Value.int .i64 2] 3) ⟨some ⟨k2,0,none⟩,2,2⟩ [1,2]:=Ze (by rfl) rfl;have hv:([1,2]:List Int)[t]?=some ((t:Int)+1):=by rcases (show t=0\/t=1 by omega) with rfl|rfl<;>rfl
   refine ZL hrow (Int.natCast_nonneg t) (by simp; omega) λp hp=>ZO hrow (o6.mem (by simp)) rfl hp (i:=t) hv rfl ?_;refine ZL5 (m:=S.seq) o6 w6 wc6 (hbk.sub hsub.1) (by dsimp only at hsub; omega) λcb7 C7 h7 o7 w7 wc7=>?_;rw [ZAQ (by omega)];refine again2 _ _ ⟨t+1,cb7,C7,rfl,by omega,o7,?_,?_⟩ (by omega)
   .rcases (show t=0\/t=1 by omega) with rfl|rfl
    .exact w7
    .exact w7
   .rcases (show t=0\/t=1 by omega) with rfl|rfl
    .exact wc7
    .exact wc7
  .have ht2:t=2:=by omega
   subst ht2;have a7:=cl h6 cb6 _ _ (o6.pick [0,2,1] 4 (by decide) (by decide)) w6;have eset:(acc.1++S.books.drop j).set j (ZAA who (S.books[j],acc.2)).1=(ZAN who acc S.books[j]).1++S.books.drop (j+1):=by rw [List.set_append_right _ _ (by omega),hal,Nat.sub_self,List.drop_eq_getElem_cons hj'];show acc.1++((ZAA who (S.books[j],acc.2)).1::S.books.drop (j+1))=(acc.1++[(ZAA who (S.books[j],acc.2)).1])++S.books.drop (j+1);simp
   rw [ZAQ (by omega)];refine again _ _ ⟨j+1,C6,rfl,by omega,by rw [est]; exact wc6,?_,?_,?_⟩ (by omega)
   .rw [est,<-eset]; exact a7
   .rw [est,<-eset];exact i3.book (n:=j) (hbk.sub hsub.1)
   .rw [est];show (ZAA who (S.books[j],acc.2)).2.length<=_;have:=(ZBi who (S.books[j],acc.2)).2;dsimp only at this;omega
 ·have hje:j=S.books.length:=by omega
  subst hje;rw [List.take_length,List.drop_length,List.append_nil] at a3 i3;rw [List.take_length] at wc hol;have hacc:S.books.foldl (ZAN who) ([],[])=ZBx who S.books:=rfl;rw [hacc] at wc a3 i3 hol;unfold ZAW at hq;dsimp only at hq;generalize ZBx who S.books=acc at*;have hd:=i.due hN;refine ZF (cd:=cP) (x:=k.pq) a3.ob (i:=7) rfl ?_;obtain ⟨cq,R,o4,w4,cl⟩:=a3.quotes;have hl1:=i.l1;refine ZZl o4 w4 (by show S.quotes.length<=_; omega) λs5 c5 d5 h5 o5 w5 wd5=>?_;have a5:=cl h5 c5 _ _ (o5.pick [0,2,1] 3 (by decide) (by decide)) w5;have a5:Zu k {S with books:=acc.1} h5 (d5::C::l):=a5;have wd5:Own ZS d5 s5 (S.quotes.filter (ofQ who)):=wd5;have hql:(S.quotes.filter (ofQ who)).length<=S.quotes.length:=List.length_filter_le _ _;generalize S.quotes.filter (ofQ who)=qs at*;have hlen:=wd5.1;refine Zb (λz h'=>∃ j:Nat,z=(j:Int)/\j<=qs.length/\Zu k ((qs.take j).foldl Go.Proofs.YtkmniidiifpdgaaGreat.goneQ {S with books:=acc.1}) h' (d5::C::l)/\WOk N ((qs.take j).foldl Go.Proofs.YtkmniidiifpdgaaGreat.goneQ {S with books:=acc.1})) (λz=>qs.length-z.toNat)
   ⟨0,rfl,Nat.zero_le _,a5,i3⟩ ?_
  rintro J5 z h6 again ⟨j,rfl,hj,a6,i6⟩
  refine ZJ (λhlt=>?_) λhge=>?_
  .have hj':j<qs.length:=by omega
   have a0:qs[j]?=some qs[j]:=List.getElem?_eq_getElem hj';have est:=Z7 Go.Proofs.YtkmniidiifpdgaaGreat.goneQ {S with books:=acc.1} qs a0;generalize (qs.take j).foldl Go.Proofs.YtkmniidiifpdgaaGreat.goneQ {S with books:=acc.1}=T at*;rw [ZAQ (by omega)];refine ZN (λ_ h'=>Zu k (Go.Proofs.YtkmniidiifpdgaaGreat.goneQ T qs[j]) h' (d5::C::l)) ?_ λJ6 hJ6=>?_
   .rintro _ h' a';exact again _ _ ⟨j+1,rfl,by omega,by rw [est]; exact a',by rw [est]; exact i6.goneQ⟩ (by omega)
   .refine ZL wd5.row (Int.natCast_nonneg j) (by omega) λp hp=>ZO wd5.row (a6.sub (by simp)) rfl hp (i:=j) a0 (by rfl) ?_;refine ZHL (q:=qs[j]) a6 i6 hN λh7 a7=>?_;unfold Go.Proofs.YtkmniidiifpdgaaGreat.goneQ at hJ6;refine ZD (λe=>?_) λe=>?_
    .rw [if_neg (by simpa using e)] at hJ6;refine ZF (cd:=cP) (x:=k.pq) a7.ob (i:=7) rfl ?_;refine a7.killQ i6 hN λt h8 a8=>?_;refine ZF (cd:=cP) (x:=k.pd) a8.ob (i:=9) rfl ?_;exact a8.dropDue (i6.due hN) λt h9 a9=>hJ6 _ _ a9
    .rw [if_pos (by simpa using e)] at hJ6;exact hJ6 _ _ a7
  .have hje:j=qs.length:=by omega
   subst hje;rw [List.take_length] at a6 i6;obtain ⟨s,d,oc,wd⟩:=wc;have hC:=a6.sub (g:=C) (by simp);have hob:(Go.Eng.ob k1 [Value.int .i64 0,Value.int .i64 0,sv s] 191).sub h6:=Hp.sub_trans (oc.mem (by simp)) hC;refine ZF (cd:=cSl) (x:=s) hob (i:=2) rfl ?_;obtain ⟨D6,o7,w7⟩:=a6;have o8:On h6 (C::D6::l):=o7.pick [2,0] 3 (by decide) (by decide);have o9:On h6 (Go.Eng.ob k1 [Value.int .i64 0,Value.int .i64 0,sv s] 191::d::D6::l):=o8.split oc;exact hq s d h6 ⟨D6,o9.pick [2,1] 3 (by decide) (by decide),w7⟩ wd i6 (by omega)
end
structure ZDy (S T:DS):Prop where
 bonds:T.bonds=S.bonds
 parties:T.parties=S.parties
 look:T.look=S.look
 books:T.books=S.books
 used:T.used=S.used
 trades:T.trades=S.trades
 order:T.order=S.order
 seq:T.seq=S.seq
 asks:∀ a∈T.asks,∃ a0∈S.asks,a0.ID=a.ID/\a0.Bond=a.Bond/\a0.Side=a.Side/\a0.Qty=a.Qty/\a0.Client=a.Client
theorem ZDy.refl (S:DS):ZDy S S:=⟨rfl,rfl,rfl,rfl,rfl,rfl,rfl,rfl,λa ha=>⟨a,ha,rfl,rfl,rfl,rfl,rfl⟩⟩
theorem ZDy.trans {S T U:DS} (h:ZDy S T) (g:ZDy T U):ZDy S U:=
 ⟨by rw [g.bonds,h.bonds],by rw [g.parties,h.parties],by rw [g.look,h.look],by rw [g.books,h.books],by rw [g.used,h.used],by rw [g.trades,h.trades],by rw [g.order,h.order],by rw [g.seq,h.seq],λa ha=>by
   obtain ⟨b,hb,e1,e2,e3,e4,e5⟩:=g.asks a ha;obtain ⟨d,hd,f1,f2,f3,f4,f5⟩:=h.asks b hb;exact ⟨d,hd,by rw [f1,e1],by rw [f2,e2],by rw [f3,e3],by rw [f4,e4],by rw [f5,e5]⟩⟩
theorem ZDy.quotes (S:DS) (xs:List Za):ZDy S {S with quotes:=xs}:=⟨rfl,rfl,rfl,rfl,rfl,rfl,rfl,rfl,λa ha=>⟨a,ha,rfl,rfl,rfl,rfl,rfl⟩⟩
theorem ZDy.upd (S:DS) (id:Int) {f:Ask→Ask} (hf:∀ x,(f x).ID=x.ID∧(f x).Bond=x.Bond∧(f x).Side=x.Side∧(f x).Qty=x.Qty∧(f x).Client=x.Client):ZDy S {S with asks:=upd Ask.ID id f S.asks}:=
 ⟨rfl,rfl,rfl,rfl,rfl,rfl,rfl,rfl,λa ha=>by
   obtain ⟨x,hx,rfl|⟨_,rfl⟩⟩:=ZH0 ha
   .exact ⟨a,hx,rfl,rfl,rfl,rfl,rfl⟩
   .have:=hf x;exact ⟨x,hx,this.1.symm,this.2.1.symm,this.2.2.1.symm,this.2.2.2.1.symm,this.2.2.2.2.symm⟩⟩
theorem ZDy.end (S:DS) (id st:Int):ZDy S {S with asks:=(ZRe S.asks id st).1}:=by
 rcases ZGI S.asks id st with e|e<;>rw [e]
 .exact ZDy.refl S
 .exact ZDy.upd S id λx=>⟨rfl,rfl,rfl,rfl,rfl⟩
theorem ZDy.back (S:DS) (id:Int):ZDy S {S with asks:=(ZGl S.asks id).1}:=by
 rcases ZE3 S.asks id with e|e<;>rw [e]
 .exact ZDy.refl S
 .exact ZDy.upd S id λx=>⟨rfl,rfl,rfl,rfl,rfl⟩
def ZDh (os:List Out):Prop:=∀ o∈os,o.Msg_Kind=25\/o.Msg_Kind=27
theorem ZDh.add {os:List Out} (h:ZDh os) {to kind:Int} {ns:List Int} (hk:kind=25\/kind=27):ZDh (os++[ZEb to kind ns]):=λo ho=>(List.mem_append.1 ho).elim (h o) λe=>by simp only [List.mem_singleton] at e;subst e;exact hk
theorem ZJ7 {N:Nat} {c:DC} (x:Ask) (i:WOk N c.d):ZDy c.d (ZHW c x).d/\WOk N (ZHW c x).d/\(ZDh c.outs->ZDh (ZHW c x).outs)/\(ZHW c x).outs.length=c.outs.length+1:=
 ⟨(ZDy.end c.d x.ID 4).trans (ZDy.quotes _ _),(i.end x.ID 4).clear x.ID,λh=>h.add (.inr rfl),by simp [ZHW,ZBQ,ZTb]⟩
theorem ZJB {N:Nat} {c:DC} (x:Ask) (i:WOk N c.d):ZDy c.d (ZAH c x).d/\WOk N (ZAH c x).d/\(ZDh c.outs->ZDh (ZAH c x).outs)/\(ZAH c x).outs.length=c.outs.length+1:=by
 unfold ZAH;split
 .have:=ZJ7 (c:=ZFm c x.Hit) x (i.kill x.Hit);exact ⟨(ZDy.quotes c.d _).trans this.1,this.2⟩
 .refine ⟨(ZDy.quotes c.d (killQ c.d.quotes x.Hit)).trans (ZDy.back (ZFm c x.Hit).d x.ID),(i.kill x.Hit).back x.ID,λh=>h.add (.inl rfl),by simp [ZBQ,ZFm]⟩
theorem ZDm (x:Int):I64 (IntKind.i64.wrap x):=by unfold I64;simp only [IntKind.wrap,IntKind.signed,IntKind.bits];simp;split<;>omega
def ZD0 (bs:List Bond) (ps:List ZAa) (look beat:Int):DS:=⟨bs,ps,look,beat,0,List.replicate bs.length [],List.replicate ps.length 0,[],[],0,[],0,0,0,0⟩
theorem ZVN {b:Bond} (h:ZMY b=true):1<=b.Tick/\1<=b.Lot/\1<=b.Low/\b.High<=1000000/\1<=b.Min/\b.Max<=1000000:=by unfold ZMY inB at h;simp only [Bool.and_eq_true,decide_eq_true_eq] at h;omega
theorem ZFR {bs:List Bond} {ps:List ZAa} {look beat:Int} (h:ZC8 bs ps look beat=true):WOk 0 (ZD0 bs ps look beat):=by
 unfold ZC8 at h;simp only [Bool.and_eq_true] at h;obtain ⟨h1,h2,h3,_⟩:=h;unfold inB at h1 h2;have h1:=of_decide_eq_true h1;have h2:=of_decide_eq_true h2;have h3:bs.any (λb=>!ZMY b)=false:=by simpa using h3
 exact {
  bonds:=λb hb=>ZVN (by have:=List.any_eq_false.1 h3 b hb; simpa using this)
  bl:=List.length_replicate
  bl4:=by show (List.replicate bs.length ([]:List ZE)).length<=4; rw [List.length_replicate]; omega
  books:=λb hb=>by have:=List.eq_of_mem_replicate hb;subst this;exact ⟨List.nodup_nil,(λx hx=>by cases hx),Nat.zero_le _,λx hx=>by cases hx⟩
  pl:=by show ps.length<=8; omega
  qs:=List.Pairwise.nil
  qi:=λq hq=>by cases hq
  sa:=List.Pairwise.nil
  ai:=λq hq=>by cases hq
  c1:=⟨Int.le_refl 0,Int.le_refl 0⟩
  c2:=⟨Int.le_refl 0,Int.le_refl 0⟩
  c3:=⟨Int.le_refl 0,Int.le_refl 0⟩
  c4:=⟨Int.le_refl 0,Int.le_refl 0⟩
  l1:=Nat.le_refl 0
  l2:=Nat.le_refl 0
  l3:=Nat.le_refl 0
  l4:=Nat.le_refl 0
  now:=(show I64 0 from ⟨by decide,by decide⟩)}
theorem Books.push {ps:List (Option Addr)} {bs:List (List ZE)} {cs:List Hp} (w:Books ps bs cs) {p:Option Addr} {b:List ZE} {c:Hp} (hb:Zk p b c):Books (ps++[p]) (bs++[b]) (cs++[c]):=by
 obtain ⟨h1,h2,h3⟩:=w;refine ⟨by simp [h1],by simp [h2],λj p' b' c' e1 e2 e3=>?_⟩;by_cases hj:j<bs.length
 .rw [List.getElem?_append_left (by omega)] at e1 e2 e3;exact h3 j p' b' c' e1 e2 e3
 .have hj':j=bs.length:=by have:=(List.getElem?_eq_some_iff.1 e2).1;simp at this;omega
  subst hj';rw [List.getElem?_append_right (by omega)] at e1 e2 e3;rw [h1,Nat.sub_self] at e1;rw [Nat.sub_self] at e2;rw [h2,Nat.sub_self] at e3;cases e1; cases e2; cases e3;exact hb
section
variable {k:DK} {S:DS} {h:Hp} {l:List Hp} {N:Nat}
theorem ZWV (o:On h l) {Q:Option Addr->Hp->Prop} (hq:∀ p c h',On h' (c::l)->ZA1 p [] c->Q p h'):ZA TP 37 [] Go.Eng.cP h Q:=by refine c37 ?_;unfold F37;refine ZH o λk h1 o1=>?_;obtain ⟨c,o2,w⟩:=ZAZ.new (cd:=ZAb) o1;exact hq _ c h1 o2 w
theorem ZWs (o:On h l) {Q:Option Addr->Hp->Prop} (hq:∀ p c h',On h' (c::l)->Zv p [] c->Q p h'):ZA TP 36 [] Go.Eng.cP h Q:=by refine c36 ?_;unfold F36;refine ZH o λk h1 o1=>?_;obtain ⟨c,o2,w⟩:=ZAZ.new (cd:=ZS) o1;exact hq _ c h1 o2 w
theorem ZIM {sb sp:Sl} {gb gp:Hp} {bs:List Bond} {ps:List ZAa} {look beat:Int} (o:On h l) (hb:gb∈l) (rb:Row ZAB gb sb bs) (hp:gp∈l) (rp:Row Z2 gp sp ps) (hr:ZC8 bs ps look beat=true)
 {Q:Option Addr->Hp->Prop} (hq:∀ k h',Zu k (ZD0 bs ps look beat) h' l->Q k.p h'):ZA TP 8 [ZAq.enc ⟨sb,sp,look,beat⟩] Go.Eng.cP h Q:=by
 have hi:=ZFR hr;have hbl:bs.length<=4:=by have:=hi.bl4; unfold ZD0 at this; simpa using this
 have hpl:ps.length<=8:=hi.pl;have hr1:1<=bs.length/\1<=ps.length:=by unfold ZC8 inB at hr;simp only [Bool.and_eq_true,decide_eq_true_eq] at hr;omega
 refine c8 (p0:=⟨sb,sp,look,beat⟩) ?_;unfold F8;refine ZPe o hb rb hp rp (by omega) (by omega) hr λpF cF h1 o1 wF=>?_;refine ZT (by obtain ⟨b,s1,s2,d1,d2,rfl,_⟩:=wF; rfl) ?_;refine ZQH o1 (by simp [hb]) rb (by omega) λs2 dB h2 o2 wB=>?_;refine ZLG o2 (by simp [hp]) rp (by omega) λs3 dP h3 o3 wP=>?_;refine ZWs o3 λpQ cQ h4 o4 wQ=>?_;refine ZWV o4 λpA cA h5 o5 wA=>?_;refine ZX2 o5 λpD cD h6 o6 wD=>?_;have hlB:=wB.1;have hlP:=wP.1;refine ZWr o6 ⟨by omega,by omega⟩ ⟨by omega,by omega⟩ λpO cO h7 o7 wO=>?_;refine ZWP o7 λpT cT h8 o8 wT=>?_;let kk:Nat->Sl->DK:=λb sk=>⟨b,s2,s3,sk,pF,pQ,pA,pD,pO,pT⟩
 refine ZH (vs:=ZAK (kk 0 ⟨none,0,0⟩) (ZD0 bs ps look beat)) o8 λk9 h9 o9=>?_;refine Zb (λz h'=>∃ (j:Nat) (sK:Sl) (dK:Hp) (ks:List (Option Addr)) (cs:List Hp),z=(j:Int)/\j<=bs.length/\ks.length=j/\On h' (ob k9 (ZAK (kk k9 sK) (ZD0 bs ps look beat)) 121::dK::(cs++(cT::cO::cD::cA::cQ::dP::dB::cF::l)))/\Own Go.Eng.cP dK sK ks/\Books ks (List.replicate j []) cs) (λz=>bs.length-z.toNat)
  ⟨0,⟨none,0,0⟩,Hp.emp,[],[],rfl,Nat.zero_le _,rfl,o9.emp.swap,Own.nil _,⟨rfl,rfl,λi p b c h=>by cases h⟩⟩ ?_
 rintro J z h10 again ⟨j,sK,dK,ks,cs,rfl,hj,hkl,o10,wK,wb⟩
 refine ZJ (λhlt=>?_) λhge=>?_
 .have hj':j<bs.length:=by omega
  refine ZI (cd:=cSl) (x:=sK) o10 0 (i:=5) rfl rfl ?_;refine ZSe o10 λp7 c11 h11 o11 w11=>?_;refine ⟨⟨Hp.sub_rds (o11.get (i:=1) rfl) (ZCS (i:=5) rfl),trivial⟩,?_⟩;refine ZH o11 λk12 h12 o12=>?_;have o12':=o12.pick [3,0,2,1] 4 (by decide) (by decide);refine ZU (cd:=Go.Eng.cP) (g:=ob k12 [Value.pointer p7] 69) (s:=sK) (t:=⟨some ⟨k12,0,none⟩,1,1⟩) (ys:=[p7]) o12' rfl wK (by decide) (Ze (by rfl) rfl) (o12.get (i:=0) rfl) ?_ λd13 p n m h13 o13 w13=>?_
  .rw [List.length_singleton];exact Nat.le_trans (Nat.mul_le_mul_right _ (show _<=100 by omega)) (by decide)
  .refine ZZ (cd:=cSl) (i:=5) (x:=⟨p,n,m⟩) (vs':=ZAK (kk k9 ⟨p,n,m⟩) (ZD0 bs ps look beat)) (o13.pick [2,0,1,3] 4 (by decide) (by decide)) rfl rfl (by show 5+1<=16; omega) λh14 o14=>?_;rw [ZAQ (by omega)];refine again _ _ ⟨j+1,⟨p,n,m⟩,d13,ks++[p7],cs++[c11],rfl,by omega,by simp [hkl],?_,w13,?_⟩ (by omega)
   .have o15:=o14.pick [0,1,3] 4 (by decide) (by decide);refine o15.perm (List.Perm.cons _ (List.Perm.cons _ ?_));show (c11::(cs++_)).Perm ((cs++[c11])++_);rw [List.append_assoc];exact List.perm_middle.symm
   .rw [List.replicate_succ'];exact wb.push w11
 .have hje:j=bs.length:=by omega
  subst hje;have o11:On h10 (ob k9 (ZAK (kk k9 sK) (ZD0 bs ps look beat)) 121::dK::cT::cO::cD::cA::cQ::dP::dB::cF::(cs++l)):=by refine o10.perm (List.Perm.cons _ (List.Perm.cons _ ?_));exact List.perm_append_comm_assoc cs [cT,cO,cD,cA,cQ,dP,dB,cF] l
  have o12:=o11.pick [0,8,7,1,9,6,5,4,3,2] 10 (by decide) (by decide);obtain ⟨o13,o14⟩:=On.joined (cs:=ob k9 (ZAK (kk k9 sK) (ZD0 bs ps look beat)) 121::dB::dP::dK::cF::cQ::cA::cD::cO::cT::cs) (l:=l) o12;exact hq (kk k9 sK) h10 ⟨_,o13,dB,dP,dK,cF,cQ,cA,cD,cO,cT,ks,cs,o14,wB,wP,wK,wF,wQ,wA,wD,wO,wT,wb⟩
theorem ZMt {n:Int} (a:Zu k S h l) {Q:Option Addr->Hp->Prop} (h0:isBond S n=false->Q none h)
 (h1:∀ (i:Nat) (hi:i<S.books.length) c R q,n=(i:Int)->On h (c::R::l)->Zk q S.books[i] c->(∀ h' c' l' x,On h' (c'::R::l')->Zk q x c'->Zu k {S with books:=S.books.set i x} h' l')->Q q h):ZA TP 19 [Value.pointer k.p,Value.int .i64 n] Go.Eng.cP h Q:=by
 refine c19 ?_;unfold F19;refine ZN (λt h'=>h'=h/\t=!isBond S n) ?_ λJ hJ=>?_
 .rintro t h' ⟨rfl,rfl⟩;refine ZD (λe=>h0 (by simpa using e)) λe=>?_;have e:isBond S n=true:=by simpa using e
  have hn:=ZBL.1 e;obtain ⟨m,rfl⟩:=Int.eq_ofNat_of_zero_le hn.1;have hm:m<S.books.length:=by omega
  obtain ⟨c,R,q,o1,w1,hld,cl⟩:=a.book hm;dsimp only [ZR,DK.p];exact hld (h1 m hm c R q rfl o1 w1 cl)
 .exact ZT rfl (ZKJ a (hJ _ _ ⟨rfl,rfl⟩))
theorem ZJN (a:Zu k S h l) (i:WOk N S) (hN:N<=10000) {Q:Sl->Hp->Prop} (hq:∀ s d h',Zu k S h' (d::l)->Own Z4 d s S.trades->Q s h'):ZA TP 11 [Value.pointer k.p] cSl h Q:=by refine c11 ?_;unfold F11;refine ZT rfl ?_;dsimp only [ZR,DK.p];refine ZF (cd:=Go.Eng.cP) (x:=k.pt) a.ob (i:=11) rfl ?_;obtain ⟨c,R,o,w,cl⟩:=a.blots;exact ZT7 o w (by have:=i.l4; omega) λs c' d h' o' w' wd=>hq s d h' (cl h' c' _ _ (o'.pick [0,2,1] 3 (by decide) (by decide)) w') wd
end
def ZFa (s:SS) (out:List (List Int)):SS×List (List Int)×Bool:=
 ((ZAz ((ZCb s).1,out,false) (ZCb s).2.1).1,(ZAz ((ZCb s).1,out,false) (ZCb s).2.1).2.1,(ZCb s).2.2||(ZAz ((ZCb s).1,out,false) (ZCb s).2.1).2.2)
theorem ZQo (s:SS):∀ f∈(ZCb s).2.1,wfF f:=by
 have o2:wfF (ZFE 2 0):=ZEx (by unfold I64; omega) (by unfold I64; omega);have o3:wfF (ZFE 3 0):=ZEx (by unfold I64; omega) (by unfold I64; omega);have o5:wfF (ZFE 5 0):=ZEx (by unfold I64; omega) (by unfold I64; omega);intro f hf;unfold ZCb at hf;split at hf
 .cases hf
 ·split at hf
  .rw [List.mem_singleton] at hf; subst hf; exact o5
  .split at hf
   .rw [List.mem_singleton] at hf; subst hf; exact o3
   .split at hf
    .rw [List.mem_singleton] at hf; subst hf; exact o2
    .cases hf
theorem ZRB {p:Option Addr} {held:List Int} {lost:Nat} {s:SS} {out:List (List Int)} {c h:Hp} {l:List Hp} (o:On h (c::l)) (w:ZDL p held lost s out c) (hb:1<=s.beat/\s.beat<=1000) (hs1:s.sent<=1000000) (hs2:s.heard<=1000000)
 {Q:Bool->Hp->Prop} (hq:∀ c' h',On h' (c'::l)->ZDL p held lost (ZFa s out).1 (ZFa s out).2.1 c'->Q (ZFa s out).2.2 h'):ZA TP 107 [Value.pointer p] cB h Q:=by
 obtain ⟨b,pf,ps,pb,cf,cs,cb,rfl,oc,wf,ws,wb⟩:=w;refine c107 ?_;unfold F107;dsimp only [ZR];have os:On h (ob b (Zq pf ps pb) 223::cf::cs::cb::l):=o.split oc;refine ZT rfl ?_;refine ZI (x:=ps) os 0 rfl rfl ?_;refine ZS9 (os.pick [2,0,1,3] 4 (by decide) (by decide)) ws hb hs1 hs2 λsl cs2 r2 h2 o2 w2 rr2=>?_;have o2':On h2 (ob b (Zq pf ps pb) 223::cf::cs2::cb::r2::l):=o2.pick [2,3,0,4,1] 5 (by decide) (by decide);have hbd:=ZRJ s;refine ZG1 o2' w2 wb (g:=r2) (by simp) rr2 (ZQo s) (by omega) λcs4 cb4 h4 o4 ws4 wb4=>?_;obtain ⟨o6,o7⟩:=On.joined (cs:=[ob b (Zq pf ps pb) 223,cf,cs4,cb4]) (l:=l) (o4.pick [0,1,2,3] 5 (by decide) (by decide));have hq:=hq _ h4 o6 ⟨b,pf,ps,pb,cf,cs4,cb4,rfl,o7,wf,ws4,wb4⟩;unfold ZFa at hq;dsimp only at hq ⊢;refine ZD (λe=>?_) λe=>?_
 .have e:(ZCb s).2.2=true:=e;rw [e] at hq; exact hq
 .have e:(ZCb s).2.2=false:=e;rw [e] at hq; simpa using hq
structure LS where
 held:List Int
 lost:Nat
 s:SS
 out:List (List Int)
def ZVr (p:Option Addr) (x:LS) (c:Hp):Prop:=ZDL p x.held x.lost x.s x.out c
def ZI6 (ps:List (Option Addr)) (bs:List LS) (cs:List Hp):Prop:=
 ps.length=bs.length/\cs.length=bs.length/\∀ (i:Nat) (p:Option Addr) (b:LS) (c:Hp),ps[i]?=some p->bs[i]?=some b->cs[i]?=some c->ZVr p b c
theorem ZI6.set {ps:List (Option Addr)} {bs:List LS} {cs:List Hp} (w:ZI6 ps bs cs) {i:Nat} {p:Option Addr} {b:LS} {c:Hp} (hp:ps[i]?=some p) (hb:ZVr p b c):ZI6 ps (bs.set i b) (cs.set i c):=by
 obtain ⟨h1,h2,h3⟩:=w;refine ⟨by simpa using h1,by simpa using h2,λj p' b' c' e1 e2 e3=>?_⟩;by_cases hij:i=j
 .subst hij;rw [hp] at e1;cases e1;have hlt:i<bs.length:=by rw [<-h1]; exact (List.getElem?_eq_some_iff.1 hp).1
  rw [List.getElem?_set_self hlt] at e2;rw [List.getElem?_set_self (by omega)] at e3;cases e2; cases e3;exact hb
 .rw [List.getElem?_set_ne hij] at e2 e3;exact h3 j p' b' c' e1 e2 e3
theorem ZI6.push {ps:List (Option Addr)} {bs:List LS} {cs:List Hp} (w:ZI6 ps bs cs) {p:Option Addr} {b:LS} {c:Hp} (hb:ZVr p b c):ZI6 (ps++[p]) (bs++[b]) (cs++[c]):=by
 obtain ⟨h1,h2,h3⟩:=w;refine ⟨by simp [h1],by simp [h2],λj p' b' c' e1 e2 e3=>?_⟩;by_cases hj:j<bs.length
 .rw [List.getElem?_append_left (by omega)] at e1 e2 e3;exact h3 j p' b' c' e1 e2 e3
 .have hj':j=bs.length:=by have:=(List.getElem?_eq_some_iff.1 e2).1;simp at this;omega
  subst hj';rw [List.getElem?_append_right (by omega)] at e1 e2 e3;rw [h1,Nat.sub_self] at e1;rw [Nat.sub_self] at e2;rw [h2,Nat.sub_self] at e3;cases e1; cases e2; cases e3;exact hb
structure VK where
 b:Nat
 k:DK
 sl:Sl
 ps:List (Option Addr)
def VK.p (v:VK):Option Addr:=some ⟨v.b,0,none⟩
structure VS where
 d:DS
 ls:List LS
def ZB1 (v:VK):List Value:=[Value.pointer v.k.p,sv v.sl]
def ZaK (v:VK) (dL:Hp) (ps:List (Option Addr)):Prop:=Own Go.Eng.cP dL v.sl ps/\ps=v.ps
def ZBY (v:VK) (S:VS) (h:Hp) (l:List Hp):Prop:=
 ∃ (dL D:Hp) (ps:List (Option Addr)) (cs:List Hp),On h (ob v.b (ZB1 v) 152::dL::D::(cs++l))/\ZaK v dL ps/\Z1 v.k S.d D/\ZI6 ps S.ls cs
section
variable {v:VK} {S:VS} {h:Hp} {l:List Hp}
theorem ZBY.ob (a:ZBY v S h l):(Go.Eng.ob v.b (ZB1 v) 152).sub h:=by obtain ⟨dL,D,ps,cs,o,_⟩:=a;exact o.mem (by simp)
theorem ZBY.len (a:ZBY v S h l):v.sl.len=S.ls.length:=by obtain ⟨dL,D,ps,cs,o,w,_,wl⟩:=a;rw [<-wl.1]; exact w.1.1
theorem ZBY.sub (a:ZBY v S h l) {g:Hp} (hg:g∈l):g.sub h:=by obtain ⟨dL,D,ps,cs,o,_⟩:=a;exact o.mem (by simp [hg])
theorem ZBY.perm {l':List Hp} (a:ZBY v S h l) (p:l.Perm l'):ZBY v S h l':=by obtain ⟨dL,D,ps,cs,o,w⟩:=a;exact ⟨dL,D,ps,cs,o.perm (((p.append_left cs).cons _).cons _ |>.cons _),w⟩
theorem ZBY.drop {g:Hp} (a:ZBY v S h (g::l)):ZBY v S h l:=by obtain ⟨dL,D,ps,cs,o,w⟩:=a;exact ⟨dL,D,ps,cs,o.sublist (((List.Sublist.append_left (List.sublist_cons_self g l) cs).cons_cons _).cons_cons _ |>.cons_cons _),w⟩
theorem ZBY.new (a:ZBY v S h l) {vs:List Value} {e:TypeId} {K:Nat->Hp->Prop} (h2:∀ b h',ZBY v S h' (Go.Eng.ob b vs e::l)->K b h'):ZM (.cells vs.toArray e (0,0)) h K:=by obtain ⟨dL,D,ps,cs,o,w⟩:=a;refine ZH o λb h' o'=>h2 b h' ⟨dL,D,ps,cs,o'.perm ?_,w⟩;have e1:Go.Eng.ob v.b (ZB1 v) 152::dL::D::(cs++Go.Eng.ob b vs e::l)=(Go.Eng.ob v.b (ZB1 v) 152::dL::D::cs)++Go.Eng.ob b vs e::l:=rfl;rw [e1];exact (List.perm_middle (l₁:=Go.Eng.ob v.b (ZB1 v) 152::dL::D::cs) (a:=Go.Eng.ob b vs e) (l₂:=l)).symm
theorem ZBY.desk (a:ZBY v S h l):∃ R,Zu v.k S.d h (R::l)/\∀ h' l' T,Zu v.k T h' (R::l')->ZBY v {S with d:=T} h' l':=by
 obtain ⟨dL,D,ps,cs,o,w1,w2,w3⟩:=a;have o1:On h ((Go.Eng.ob v.b (ZB1 v) 152::dL::cs)++(D::l)):=by refine o.perm (List.Perm.cons _ (List.Perm.cons _ ?_));exact List.perm_middle.symm
 obtain ⟨o2,o3⟩:=On.joined o1;refine ⟨_,⟨D,o2.swap,w2⟩,λh' l' T a'=>?_⟩;obtain ⟨D',o',w'⟩:=a';have o4:=o'.swap.split o3;exact ⟨dL,D',ps,cs,o4.perm (List.Perm.cons _ (List.Perm.cons _ List.perm_middle)),w1,w',w3⟩
theorem ZBY.line (a:ZBY v S h l) {i:Nat} (hi:i<S.ls.length):∃ c R q,On h (c::R::l)/\v.ps[i]?=some q/\ZVr q S.ls[i] c/\(∀ {K:Option Addr->Prop},K q->Zl v.sl.a v.sl.len (i:Int) λa=>ZC Go.Eng.cP (a.add ((i:Int).toNat*1)) h K)/\
 ∀ h' c' l' x,On h' (c'::R::l')->ZVr q x c'->ZBY v {S with ls:=S.ls.set i x} h' l':=by
 obtain ⟨dL,D,ps,cs,o,w1,w2,hb1,hb2,hb3⟩:=a;have hc:cs[i]?=some cs[i]:=List.getElem?_eq_getElem (by omega);have hk:ps[i]?=some ps[i]:=List.getElem?_eq_getElem (by omega);have hx:S.ls[i]?=some S.ls[i]:=List.getElem?_eq_getElem hi;have o1:On h ((Go.Eng.ob v.b (ZB1 v) 152::dL::D::cs)++l):=o;obtain ⟨o2,o3⟩:=On.joined o1;obtain ⟨R,o4,_,hcl⟩:=ZP9 o2 o3 (i:=i+3) hc;refine ⟨cs[i],R,ps[i],o4,by rw [<-w1.2]; exact hk,hb3 i _ _ _ hk hx hc,λ{K} hK=>?_,λh' c' l' x o' w'=>?_⟩
 .obtain ⟨w1,_⟩:=w1;have:=w1.1;refine ZL w1.row (Int.natCast_nonneg i) (by omega) λa ha=>?_;exact ZO w1.row (o.mem (by simp)) rfl ha (i:=i) hk rfl hK
 .obtain ⟨D',o5,o6⟩:=hcl h' _ l' o';exact ⟨dL,D,ps,cs.set i c',o5.split o6,w1,w2,ZI6.set ⟨hb1,hb2,hb3⟩ hk w'⟩
theorem ZQT {n:Int} (a:ZBY v S h l) {Q:Bool->Hp->Prop} (hq:Q (decide (0<=n/\n<S.ls.length)) h):ZA TP 62 [Value.pointer v.p,Value.int .i64 n] cB h Q:=by
 refine c62 ?_;unfold F62;refine Zh rfl (ZJ (λh0=>?_) λh0=>?_)
 .dsimp only [ZR,VK.p];refine ZF (cd:=cSl) (x:=v.sl) a.ob (i:=1) rfl ?_;rw [a.len];rwa [show decide (0<=n/\n<(S.ls.length:Int))=decide (n<(S.ls.length:Int)) from decide_eq_decide.2 (by omega)] at hq
 .rwa [decide_eq_false (by omega)] at hq
theorem ZVI (a:ZBY v S h l) {Q:Option Addr->Hp->Prop} (hq:Q v.k.p h):ZA TP 27 [Value.pointer v.p] Go.Eng.cP h Q:=by refine c27 ?_;unfold F27;refine ZT rfl ?_;dsimp only [ZR,VK.p];exact ZF (cd:=Go.Eng.cP) (x:=v.k.p) a.ob (i:=0) rfl hq
theorem ZW8 {n:Nat} (a:ZBY v S h l) (hn:n<S.ls.length) (ho:S.ls[n].out.length<=1000) {Q:Sl->Hp->Prop} (hq:∀ sl ss r h',ZBY v {S with ls:=S.ls.set n {S.ls[n] with out:=[]}} h' (r::l)->Row cSl r sl ss->ZD3 r ss S.ls[n].out->Q sl h'):
 ZA TP 70 [Value.pointer v.p,Value.int .i64 (n:Int)] cSl h Q:=by
 refine c70 ?_;unfold F70;refine ZQT a ?_;refine ZT (by rw [decide_eq_true ⟨Int.natCast_nonneg n,by omega⟩]; rfl) ?_;obtain ⟨c,R,q,o1,_,w1,hld,cl⟩:=a.line hn;dsimp only [ZR,VK.p];refine ZF (cd:=cSl) (x:=v.sl) a.ob (i:=1) rfl ?_;refine hld ?_;refine ZTn o1 w1 ho λsl ss c2 r2 h2 o2 w2 hr hr2=>?_;exact hq sl ss r2 h2 (cl h2 c2 _ _ (o2.pick [0,2,1] 3 (by decide) (by decide)) w2) hr hr2
end
def ZDc (o:List (List Int)):Prop:=∃ fs:List ZP,(∀ f∈fs,wfF f)/\o=fs.map λf=>ZBA (ZAf f)
theorem ZDc.nil:ZDc []:=⟨[],by simp,rfl⟩
theorem ZDc.add {o:List (List Int)} (h:ZDc o) {f:ZP} (hf:wfF f):ZDc (o++[ZBA (ZAf f)]):=by
 obtain ⟨fs,h1,rfl⟩:=h;refine ⟨fs++[f],λg hg=>?_,by simp⟩;rcases List.mem_append.1 hg with hg|hg
 .exact h1 g hg
 .simp only [List.mem_singleton] at hg;subst hg; exact hf
theorem ZFT:∀ (fs:List ZP) (st:SS×List (List Int)×Bool),(∀ f∈fs,wfF f)→ZDc st.2.1→ZDc (ZAz st fs).2.1
 | [],st,_,h=>h
 | f::fs,st,hf,h=>by
   refine ZFT fs (ZBn st f) (λx hx=>hf x (by simp [hx])) ?_;unfold ZBn;split
   .exact h.add (hf f (by simp))
   .exact h
theorem ZVJ {s:SS} {m:Msg} (hm:wfF (mkF (s.all.length+1:Nat) m)):(ZAm s m).2.2=true->wfF (ZAm s m).2.1:=by
 unfold ZAm;split
 .intro h; cases h
 .intro _; exact hm
structure LOk (A B:Nat) (x:LS):Prop where
 held:Zz x.held
 hl:x.s.want+x.held.length+x.lost<=B+1
 wf:∀ f∈x.s.all,wfF f
 al:x.s.all.length<=A
 beat:1<=x.s.beat/\x.s.beat<=1000
 sent:x.s.sent<=B
 heard:x.s.heard<=B
 out:x.out.length<=256
 outs:ZDc x.out
theorem LOk.mono {A B A' B':Nat} {x:LS} (h:LOk A B x) (ha:A<=A') (hb:B<=B'):LOk A' B' x:=
 {h with hl:=by have:=h.hl; omega,al:=by have:=h.al; omega,sent:=by have:=h.sent; omega,heard:=by have:=h.heard; omega}
def ZJw (o:Out):Msg:=⟨o.Msg_Kind,o.Msg_F_0,o.Msg_F_1,o.Msg_F_2,o.Msg_F_3,o.Msg_F_4,o.Msg_F_5⟩
def ZCE (o:Out):Prop:=∀ n,I64 n->wfF (mkF n (ZJw o))
def lsV (x:LS) (m:Msg):LS:={x with s:=(ZFq x.s x.out m).1,out:=(ZFq x.s x.out m).2.1}
theorem ZMJ (st:SS×List (List Int)×Bool) (f:ZP):(ZBn st f).1.beat=st.1.beat/\(ZBn st f).1.all=st.1.all/\(ZBn st f).1.want=st.1.want/\(ZBn st f).1.sent=st.1.sent/\(ZBn st f).1.heard=st.1.heard/\((ZBn st f).1.up=true->st.1.up=true)/\(st.2.1.length<=256->(ZBn st f).2.1.length<=256):=by
 unfold ZBn;split
 .exact ⟨rfl,rfl,rfl,rfl,rfl,λh=>h,λh=>by dsimp only; rw [List.length_append,List.length_singleton]; omega⟩
 .exact ⟨rfl,rfl,rfl,rfl,rfl,λh=>absurd h (by simp [ZMF]),λh=>h⟩
theorem ZCo:∀ (fs:List ZP) (st:SS×List (List Int)×Bool),(ZAz st fs).1.beat=st.1.beat/\(ZAz st fs).1.all=st.1.all/\(ZAz st fs).1.want=st.1.want/\(ZAz st fs).1.sent=st.1.sent/\(ZAz st fs).1.heard=st.1.heard/\((ZAz st fs).1.up=true->st.1.up=true)/\(st.2.1.length<=256->(ZAz st fs).2.1.length<=256)
 | [],st=>⟨rfl,rfl,rfl,rfl,rfl,λh=>h,λh=>h⟩
 | f::fs,st=>by have h1:=ZMJ st f;have h2:=ZCo fs (ZBn st f);refine ⟨h2.1.trans h1.1,h2.2.1.trans h1.2.1,h2.2.2.1.trans h1.2.2.1,h2.2.2.2.1.trans h1.2.2.2.1,h2.2.2.2.2.1.trans h1.2.2.2.2.1,λh=>h1.2.2.2.2.2.1 (h2.2.2.2.2.2.1 h),λh=>h2.2.2.2.2.2.2 (h1.2.2.2.2.2.2 h)⟩
theorem ZMj (s:SS) (m:Msg) (hm:wfF (mkF (s.all.length+1:Nat) m)) (hw:∀ f∈s.all,wfF f):(ZAm s m).1.beat=s.beat/\(∀ f∈(ZAm s m).1.all,wfF f)/\(ZAm s m).1.all.length<=s.all.length+1/\(ZAm s m).1.want=s.want/\(ZAm s m).1.sent<=s.sent/\(ZAm s m).1.heard=s.heard/\((ZAm s m).1.up=true->s.up=true):=by
 unfold ZAm;split
 .exact ⟨rfl,hw,by dsimp only; omega,rfl,Nat.le_refl _,rfl,λh=>h⟩
 .refine ⟨rfl,λf hf=>?_,by simp,rfl,by dsimp only; split<;>omega,rfl,λh=>h⟩;rcases List.mem_append.1 hf with hf|hf
  .exact hw f hf
  .simp only [List.mem_singleton] at hf;subst hf;exact hm
theorem ZaQ {A B:Nat} {x:LS} {m:Msg} (h:LOk A B x) (hm:wfF (mkF (x.s.all.length+1:Nat) m)):LOk (A+1) B (lsV x m)/\((lsV x m).s.up=true->x.s.up=true):=by
 have hs:=ZMj x.s m hm h.wf;have e:(lsV x m).held=x.held/\(lsV x m).lost=x.lost:=⟨rfl,rfl⟩
 have key:(lsV x m).s.beat=x.s.beat/\(∀ f∈(lsV x m).s.all,wfF f)/\(lsV x m).s.all.length<=x.s.all.length+1/\(lsV x m).s.want=x.s.want/\(lsV x m).s.sent<=x.s.sent/\(lsV x m).s.heard=x.s.heard/\((lsV x m).s.up=true->x.s.up=true)/\(lsV x m).out.length<=256/\ZDc (lsV x m).out:=by
  have hfr:=ZVJ (s:=x.s) hm;unfold lsV ZFq;dsimp only;split
  .rename_i hup;have hg:=ZCo [(ZAm x.s m).2.1] ((ZAm x.s m).1,x.out,false);dsimp only at hg;exact ⟨hg.1.trans hs.1,by rw [hg.2.1]; exact hs.2.1,by rw [hg.2.1]; exact hs.2.2.1,hg.2.2.1.trans hs.2.2.2.1,by rw [hg.2.2.2.1]; exact hs.2.2.2.2.1,hg.2.2.2.2.1.trans hs.2.2.2.2.2.1,λh=>hs.2.2.2.2.2.2 (hg.2.2.2.2.2.1 h),hg.2.2.2.2.2.2 h.out,ZFT _ _ (λf hf=>by rw [List.mem_singleton] at hf; subst hf; exact hfr hup) h.outs⟩
  .exact ⟨hs.1,hs.2.1,hs.2.2.1,hs.2.2.2.1,hs.2.2.2.2.1,hs.2.2.2.2.2.1,hs.2.2.2.2.2.2,h.out,h.outs⟩
 obtain ⟨k1,k2,k3,k4,k5,k6,k7,k8,k9⟩:=key;have a1:=h.al;have a2:=h.sent;exact ⟨⟨by rw [e.1]; exact h.held,by rw [e.1,e.2,k4]; exact h.hl,k2,by omega,by rw [k1]; exact h.beat,by omega,by rw [k6]; exact h.heard,k8,k9⟩,k7⟩
def ZBP (st:List LS×List Bool) (o:Out):List LS×List Bool:=
 if 0<=o.To/\o.To<st.1.length then match st.1[o.To.toNat]? with
  | none=>st
  | some x=>(st.1.set o.To.toNat (lsV x (ZJw o)),st.2.set o.To.toNat ((st.2[o.To.toNat]?).getD false||(x.s.up&&!(lsV x (ZJw o)).s.up)))
 else st
def ZA8 (ls:List LS) (os:List Out):List LS×List Bool:=os.foldl ZBP (ls,List.replicate ls.length false)
def ups (ls:List LS):Nat:=(ls.filter λx=>x.s.up).length
def ZDN (bs:List Bool):Nat:=(bs.filter id).length
theorem ZG2 {α:Type} (φ:α→Bool):∀ (l:List α) (i:Nat) (x y:α),l[i]?=some x→((l.set i y).filter φ).length+(if φ x then 1 else 0)=(l.filter φ).length+(if φ y then 1 else 0)
 | [],i,x,y,h=>by simp at h
 | a::l,0,x,y,h=>by
   simp only [List.getElem?_cons_zero,Option.some.injEq] at h;subst h;simp only [List.set_cons_zero,List.filter_cons];split<;>split<;>simp_all<;>omega
 | a::l,i+1,x,y,h=>by simp only [List.getElem?_cons_succ] at h;have:=ZG2 φ l i x y h;simp only [List.set_cons_succ,List.filter_cons];split<;>(try simp only [List.length_cons])<;>omega
theorem ZTz {A B:Nat} {st:List LS×List Bool} {o:Out} (h:∀ x∈st.1,LOk A B x) (ho:ZCE o) (hA:A≤1000000000) (hl:st.2.length=st.1.length):
 (∀ x∈(ZBP st o).1,LOk (A+1) B x)/\(ZBP st o).1.length=st.1.length/\(ZBP st o).2.length=st.1.length/\ups (ZBP st o).1+ZDN (ZBP st o).2<=ups st.1+ZDN st.2/\∀ (i:Nat) (x:LS),(ZBP st o).1[i]?=some x->x.s.up=true->∃ y:LS,st.1[i]?=some y/\y.s.up=true:=by
 have h0:∀ x∈st.1,LOk (A+1) B x:=λx hx=>(h x hx).mono (by omega) (Nat.le_refl _);unfold ZBP;split
 .rename_i hn;have hlt:o.To.toNat<st.1.length:=by omega
  rw [List.getElem?_eq_getElem hlt];dsimp only;have hx:=h _ (List.getElem_mem hlt);have hk:=ZaQ (m:=ZJw o) hx (ho _ (by have:=hx.al; unfold I64; omega));have hg:st.1[o.To.toNat]?=some st.1[o.To.toNat]:=List.getElem?_eq_getElem hlt;generalize st.1[o.To.toNat]=x at*;refine ⟨λy hy=>?_,by rw [List.length_set],by rw [List.length_set]; exact hl,?_,λi y hy hu=>?_⟩
  .rcases List.mem_or_eq_of_mem_set hy with hy|hy
   .exact h0 y hy
   .subst hy; exact hk.1
  .have hlt2:o.To.toNat<st.2.length:=by omega
   have c1:=ZG2 (λx=>x.s.up) st.1 o.To.toNat x (lsV x (ZJw o)) hg;have c2:=ZG2 id st.2 o.To.toNat st.2[o.To.toNat] (st.2[o.To.toNat]||(x.s.up&&!(lsV x (ZJw o)).s.up)) (List.getElem?_eq_getElem hlt2);rw [List.getElem?_eq_getElem hlt2];unfold ups ZDN;show _+(List.filter id (st.2.set o.To.toNat (st.2[o.To.toNat]||(x.s.up&&!(lsV x (ZJw o)).s.up)))).length<=_;have hup:=hk.2;generalize (lsV x (ZJw o)).s.up=u at*;generalize x.s.up=w at*;generalize st.2[o.To.toNat]=t at*;cases u<;>cases w<;>cases t<;>simp at c1 c2 hup ⊢<;>omega
  .by_cases hi:o.To.toNat=i
   .subst hi;rw [List.getElem?_set_self hlt] at hy;cases hy;exact ⟨x,hg,hk.2 hu⟩
   .rw [List.getElem?_set_ne hi] at hy;exact ⟨y,hy,hu⟩
 .exact ⟨h0,rfl,hl,Nat.le_refl _,λi x hx hu=>⟨x,hx,hu⟩⟩
theorem ZHh {B:Nat}:∀ (os:List Out) {A:Nat} {st:List LS×List Bool},(∀ x∈st.1,LOk A B x)->(∀ o∈os,ZCE o)->A+os.length<=1000000000->st.2.length=st.1.length->
 (∀ x∈(os.foldl ZBP st).1,LOk (A+os.length) B x)/\(os.foldl ZBP st).1.length=st.1.length/\(os.foldl ZBP st).2.length=st.1.length/\ups (os.foldl ZBP st).1+ZDN (os.foldl ZBP st).2<=ups st.1+ZDN st.2/\∀ (i:Nat) (x:LS),(os.foldl ZBP st).1[i]?=some x->x.s.up=true->∃ y:LS,st.1[i]?=some y/\y.s.up=true
 | [],A,st,h,ho,hA,hl=>⟨h,rfl,hl,Nat.le_refl _,λi x hx hu=>⟨x,hx,hu⟩⟩
 | o::os,A,st,h,ho,hA,hl=>by rw [List.length_cons] at hA;have h1:=ZTz (A:=A) (B:=B) (st:=st) (o:=o) h (ho o (by simp)) (by omega) hl;have h2:=ZHh os (A:=A+1) (st:=ZBP st o) h1.1 (λx hx=>ho x (by simp [hx])) (by omega) (by rw [h1.2.2.1,h1.2.1]);rw [List.foldl_cons,List.length_cons];refine ⟨λx hx=>(h2.1 x hx).mono (by omega) (Nat.le_refl _),by rw [h2.2.1,h1.2.1],by rw [h2.2.2.1,h1.2.1],by have:=h1.2.2.2.1; have:=h2.2.2.2.1; omega,λi x hx hu=>?_⟩;obtain ⟨y,hy,hyu⟩:=h2.2.2.2.2 i x hx hu;exact h1.2.2.2.2 i y hy hyu
theorem ZR8:∀ n:Nat,Z3 n [Value.bool false]=ZG cB (List.replicate n false)
 | 0=>rfl
 | n+1=>by show Value.bool false::Z3 n [Value.bool false]=Value.bool false::ZG cB (List.replicate n false);rw [ZR8 n]
theorem ZVz {k n:Nat} {e:TypeId}:Own cB (ob k (Z3 n [Value.bool false]) e) ⟨some ⟨k,0,none⟩,n,n⟩ (List.replicate n false):=
 ZBN (rest:=[]) (by rw [ZR8,List.append_nil]) (by simp) (by simp)
section
variable {v:VK} {S:VS} {h:Hp} {l:List Hp} {A B:Nat}
theorem ZQF {d:Hp} {sl:Sl} {bs:List Bool} {i:Nat} {x:Bool} (a:ZBY v S h (d::l)) (w:Own cB d sl bs) (hi:i<bs.length) {K:Hp->Prop} (hK:∀ d' h',ZBY v S h' (d'::l)->Own cB d' sl (bs.set i x)->K h'):
 Zl sl.a sl.len (i:Int) λp=>ZV cB (p.add ((i:Int).toNat*1)) x h K:=by
 have:=w.1;refine ZL w.row (Int.natCast_nonneg i) (by omega) λp hp=>?_;obtain ⟨dL,D,ps,cs,o,w1⟩:=a;have e1:∀ z:Hp,ob v.b (ZB1 v) 152::dL::D::(cs++z::l)=(ob v.b (ZB1 v) 152::dL::D::cs)++z::l:=λ_=>rfl;have o1:On h (d::((ob v.b (ZB1 v) 152::dL::D::cs)++l)):=o.perm (by rw [e1]; exact List.perm_middle);refine ZBy o1 rfl w hp (i:=i) hi rfl λd2 h2 o2 w2=>?_;refine hK d2 h2 ⟨dL,D,ps,cs,o2.perm ?_,w1⟩ w2;rw [e1];exact List.perm_middle.symm
theorem ZOM {p:Sl} {g:Hp} {os:List Out} (a:ZBY v S h l) (hg:g∈l) (r:Row ZCJ g p os) (hx:∀ x∈S.ls,LOk A B x) (ho:∀ o∈os,ZCE o) (hA:A+os.length≤1000000000) (hn:S.ls.length≤1000)
 {Q:Sl->Hp->Prop} (hq:∀ sl d h',ZBY v {S with ls:=(ZA8 S.ls os).1} h' (d::l)->Own cB d sl (ZA8 S.ls os).2->Q sl h'):ZA TP 110 [Value.pointer v.p,Value.slice p.a p.len p.cap] cSl h Q:=by
 refine c110 ?_;unfold F110;have hlen:=r.1;have hvl:=a.len;dsimp only [ZR,VK.p];refine ZF (cd:=cSl) (x:=v.sl) a.ob (i:=1) rfl ?_;refine ⟨by omega,by omega,by omega,by omega,?_⟩;refine a.new λk1 h1 a1=>?_;have en:((v.sl.len:Int)).toNat=S.ls.length:=by omega
 rw [en] at a1 ⊢;unfold ZA8 at hq;refine Zb (λz h'=>∃ (j:Nat) (d:Hp),z=(j:Int)/\j<=os.length/\ZBY v {S with ls:=((os.take j).foldl ZBP (S.ls,List.replicate S.ls.length false)).1} h' (d::l)/\Own cB d ⟨some ⟨k1,0,none⟩,S.ls.length,S.ls.length⟩ ((os.take j).foldl ZBP (S.ls,List.replicate S.ls.length false)).2) (λz=>os.length-z.toNat)
  ⟨0,_,rfl,Nat.zero_le _,a1,ZVz⟩ ?_
 rintro J z h2 again ⟨j,d,rfl,hj,a2,w2⟩
 have hst:=ZHh (B:=B) (os.take j) (A:=A) (st:=(S.ls,List.replicate S.ls.length false)) hx (λo ho'=>ho o (List.mem_of_mem_take ho')) (by rw [List.length_take]; omega) (by simp);refine ZJ (λhlt=>?_) λhge=>?_
 ·have hj':j<os.length:=by omega
  have a0:os[j]?=some os[j]:=List.getElem?_eq_getElem hj';have est:=Z7 ZBP (S.ls,List.replicate S.ls.length false) os a0;have hoj:=ho _ (List.getElem_mem hj');rw [List.length_take] at hst;generalize os[j]=o at a0 est hoj;generalize (os.take j).foldl ZBP (S.ls,List.replicate S.ls.length false)=st at*;obtain ⟨ls,dn⟩:=st;dsimp only at a2 w2 hst est;obtain ⟨s1,s2,s3,_⟩:=hst;rw [ZAQ (by omega)];refine ZN (λ_ h'=>∃ d,ZBY v {S with ls:=(ZBP (ls,dn) o).1} h' (d::l)/\Own cB d ⟨some ⟨k1,0,none⟩,S.ls.length,S.ls.length⟩ (ZBP (ls,dn) o).2) ?_ λJ2 hJ2=>?_
  .rintro _ h' ⟨d',a',w'⟩;exact again _ _ ⟨j+1,d',rfl,by omega,by rw [est]; exact a',by rw [est]; exact w'⟩ (by omega)
  .refine ZL r (Int.natCast_nonneg j) (by omega) λp hp=>ZO r (a2.sub (by simp [hg])) rfl hp (i:=j) a0 (by rfl) ?_;refine ZQT a2 ?_;dsimp only;unfold ZBP at hJ2;dsimp only at hJ2;refine ZD (λe=>?_) λe=>?_
   .have e:¬(0<=o.To/\o.To<(ls.length:Int)):=by simpa only [Bool.not_eq_true',decide_eq_false_iff_not] using e
    rw [if_neg e] at hJ2;exact hJ2 _ _ ⟨d,a2,w2⟩
   .have e:0<=o.To/\o.To<ls.length:=by simpa using e
    rw [if_pos e] at hJ2;generalize o.To=n at*;obtain ⟨m,rfl⟩:=Int.eq_ofNat_of_zero_le e.1;have hm:m<ls.length:=by omega
    have hmd:m<dn.length:=by omega
    simp only [Int.toNat_natCast] at hJ2;rw [List.getElem?_eq_getElem hm,List.getElem?_eq_getElem hmd] at hJ2;dsimp only [Option.getD_some] at hJ2;have hxm:=s1 _ (List.getElem_mem hm);refine ZF (cd:=cSl) (x:=v.sl) a2.ob (i:=1) rfl ?_;obtain ⟨c3,R,q,o3,_,w3,hld,cl⟩:=a2.line (i:=m) hm;refine hld ?_;refine ZJa (o3.mem (by simp)) w3 ?_;have hal:=hxm.al;refine ZQU (m:=ZJw o) o3 w3 (by show ls[m].s.all.length<=_; omega) (hoj _ (by show I64 ((ls[m].s.all.length+1:Nat):Int); unfold I64; omega)) λc4 h4 o4 w4=>?_;have a4:ZBY v {S with ls:=ls.set m (lsV ls[m] (ZJw o))} h4 (d::l):=cl h4 c4 _ (lsV ls[m] (ZJw o)) o4 w4;have hdl:=w2.1;dsimp only at hdl;have hwr:∀ {K:Bool->Prop},K dn[m]->Zl (some ⟨k1,0,none⟩) S.ls.length (m:Int) λp=>ZC cB (p.add ((m:Int).toNat*1)) h4 K:=λ{K} hK=>by refine ZL w2.row (Int.natCast_nonneg m) (by omega) λp hp=>?_;exact ZO w2.row (a4.sub (by simp)) rfl hp (i:=m) (List.getElem?_eq_getElem hmd) (by rfl) hK
    refine hwr ?_;have hput:∀ {x:Bool},x=(dn[m]||(ls[m].s.up&&!(lsV ls[m] (ZJw o)).s.up))->Zl (some ⟨k1,0,none⟩) S.ls.length (m:Int) λp=>ZV cB (p.add ((m:Int).toNat*1)) x h4 λh'=>J2 PUnit.unit h':=λ{x} hx=>by refine ZQF (sl:=⟨some ⟨k1,0,none⟩,S.ls.length,S.ls.length⟩) (x:=x) a4 w2 hmd λd5 h5 a5 w5=>?_;rw [hx] at w5;exact hJ2 _ _ ⟨d5,a5,w5⟩
    refine ZD (λe1=>hput ?_) λe1=>ZD (λe2=>?_) λe2=>hput ?_
    .rw [e1]; rfl
    .refine ZJa (o4.mem (by simp)) w4 (hput ?_);have e2:ls[m].s.up=true:=e2;rw [e1,e2]; rfl
    .rw [e1];have e2:ls[m].s.up=false:=e2;rw [e2]; rfl
 .have:j=os.length:=by omega
  subst this;rw [List.take_length] at a2 w2;exact hq _ d h2 a2 w2
end
structure FOk (S:DS):Prop where
 bo:∀ b∈S.books,∀ x∈b,I64 x.ID
 qo:∀ q∈S.quotes,I64 q.ID/\I64 q.Expires
 ao:∀ a∈S.asks,I64 a.Side/\I64 a.Ends/\I64 a.Hit
theorem ZRd {n:Int} (h1:-9223372036854775808<=n) (h2:n<=9223372036854775807):I64 n:=⟨h1,h2⟩
theorem ZD2 {to kind:Int} {ns:List Int} (hk:I64 kind) (hn:∀ n∈ns,I64 n):ZCE (ZEb to kind ns):=by
 have hg:∀ i,I64 (ns.getD i 0):=λi=>ZQP hn i;intro n hn';unfold wfF mkF ZJw ZEb;intro x hx;simp only [ZDZ,fs,List.mem_cons,List.not_mem_nil,or_false] at hx;rcases hx with rfl|rfl|rfl|rfl|rfl|rfl|rfl|rfl
 .exact hn'
 .exact hk
 all_goals exact hg _
theorem ZNC {t:ZAr} (h:ZCx t):∀ o∈ZFf t,ZCE o:=by obtain ⟨h1,h2,h3,h4,h5,h6,h7,h8⟩:=h;intro o ho n hn;unfold ZFf ZYe at ho;simp only [List.mem_cons,List.not_mem_nil,or_false] at ho;unfold wfF mkF ZJw;intro x hx;rcases ho with rfl|rfl<;>simp only [ZDZ,fs,List.mem_cons,List.not_mem_nil,or_false] at hx<;>rcases hx with rfl|rfl|rfl|rfl|rfl|rfl|rfl|rfl<;>first|assumption|(exact ZRd (by omega) (by omega))
theorem ZJC {who:Int} {P:ZE→Prop}:∀ (os:List ZE) (st:List ZE×List Out),(∀ o∈os,P o)→(∀ o,P o→o.Owner=who→ZCE (ZEb who 21 [o.ID,o.Left]))→(∀ o∈st.2,ZCE o)→∀ o∈(os.foldl (ZCZ who) st).2,ZCE o
 | [],st,_,_,h=>h
 | x::os,st,hP,hO,h=>by
   rw [List.foldl_cons];refine ZJC os (ZCZ who st x) (λo ho=>hP o (by simp [ho])) hO ?_;unfold ZCZ;split
   .rename_i e;intro o ho;rcases List.mem_append.1 ho with ho|ho
    .exact h o ho
    .simp only [List.mem_singleton] at ho;subst ho;exact hO x (hP x (by simp)) e
   .exact h
theorem ZLD {who:Int} {o:ZE} (h1:I64 o.ID) (h2:1<=o.Left/\o.Left<=1000000):ZCE (ZEb who 21 [o.ID,o.Left]):=ZD2 (ZRd (by omega) (by omega)) λn hn=>by
 simp only [List.mem_cons,List.not_mem_nil,or_false] at hn;rcases hn with rfl|rfl
 .exact h1
 .exact ZRd (by omega) (by omega)
theorem ZMS {who m:Int} {b:List ZE} {os:List Out} (hb:ZAo m b) (hi:∀ x∈b,I64 x.ID) (ho:∀ o∈os,ZCE o):∀ o∈(ZAA who (b,os)).2,ZCE o:=by
 unfold ZAA;have h1:∀ o∈(ZAU who 1 (b,os)).2,ZCE o:=by unfold ZAU;exact ZJC (P:=λo=>o∈b) _ _ (λo ho=>(ZA0.1 ho).1) (λo hm _=>ZLD (hi o hm) ⟨(hb.2.1 o hm).1,(hb.2.1 o hm).2.1⟩) ho
 have hs:=(ZCO who 1 (b,os)).1;generalize ZAU who 1 (b,os)=st at*;unfold ZAU;exact ZJC (P:=λo=>o∈b) _ _ (λo ho=>hs.subset (ZA0.1 ho).1) (λo hm _=>ZLD (hi o hm) ⟨(hb.2.1 o hm).1,(hb.2.1 o hm).2.1⟩) h1
theorem ZIl {who m:Int}:∀ (bs:List (List ZE)) (acc:List (List ZE)×List Out),(∀ b∈bs,ZAo m b∧∀ x∈b,I64 x.ID)→(∀ b∈acc.1,∀ x∈b,I64 x.ID)→(∀ o∈acc.2,ZCE o)→
 (∀ b∈(bs.foldl (ZAN who) acc).1,∀ x∈b,I64 x.ID)/\∀ o∈(bs.foldl (ZAN who) acc).2,ZCE o
 | [],acc,_,h1,h2=>⟨h1,h2⟩
 | b::bs,acc,hb,h1,h2=>by
   rw [List.foldl_cons];have hbb:=hb b (by simp);refine ZIl bs (ZAN who acc b) (λx hx=>hb x (by simp [hx])) (λy hy=>?_) (ZMS hbb.1 hbb.2 h2);rcases List.mem_append.1 hy with hy|hy
   .exact h1 y hy
   .simp only [List.mem_singleton] at hy;subst hy;exact λx hx=>hbb.2 x ((ZBi who (b,acc.2)).1.subset hx)
theorem ZLs (S:DS) (q:Za):(goneQ S q).books=S.books/\(goneQ S q).asks=S.asks/\(goneQ S q).trades=S.trades:=by unfold goneQ;split<;>exact ⟨rfl,rfl,rfl⟩
theorem ZGT:∀ (qs:List Za) (S:DS),(qs.foldl goneQ S).books=S.books/\(qs.foldl goneQ S).asks=S.asks/\(qs.foldl goneQ S).trades=S.trades
 | [],S=>⟨rfl,rfl,rfl⟩
 | q::qs,S=>by have h1:=ZLs S q;have h2:=ZGT qs (goneQ S q);rw [List.foldl_cons];exact ⟨h2.1.trans h1.1,h2.2.1.trans h1.2.1,h2.2.2.trans h1.2.2⟩
theorem ZJY {xs:List Za} {id:Int} (h:∀ q∈xs,I64 q.ID/\I64 q.Expires):∀ q∈killQ xs id,I64 q.ID/\I64 q.Expires:=λq hq=>by
 obtain ⟨x,hx,rfl|⟨_,rfl⟩⟩:=ZH0 hq
 .exact h q hx
 .exact h x hx
theorem ZNx:∀ (qs:List Za) (S:DS),FOk S→FOk (qs.foldl goneQ S)
 | [],S,h=>h
 | q::qs,S,h=>by
   rw [List.foldl_cons];refine ZNx qs (goneQ S q) ?_;unfold goneQ;split
   .exact h
   .exact {h with qo:=ZJY h.qo}
theorem ZIN {N:Nat} {S:DS} {who:Int} (i:WOk N S) (f:FOk S):FOk (ZAW S who).1/\∀ o∈(ZAW S who).2,ZCE o:=by have h:=ZIl (who:=who) (m:=S.seq) S.books ([],[]) (λb hb=>⟨i.books b hb,f.bo b hb⟩) (by simp) (by simp);exact ⟨ZNx _ _ {f with bo:=h.1},h.2⟩
theorem ZEw (S:DS) (who:Int):(ZAW S who).1.books=(ZBx who S.books).1/\(ZAW S who).1.asks=S.asks/\(ZAW S who).1.trades=S.trades:=ZGT _ _
def ZDE (a b:List Bool):List Bool:=List.zipWith (λx y=>x||y) a b
def ZAX (acc:VS×List Bool) (p:Bool×Nat):VS×List Bool:=
 if p.1=true then (⟨(ZAW acc.1.d p.2).1,(ZA8 acc.1.ls (ZAW acc.1.d p.2).2).1⟩,ZDE acc.2 (ZA8 acc.1.ls (ZAW acc.1.d p.2).2).2) else acc
def ZEK (S:VS) (dn:List Bool):VS×List Bool:=dn.zipIdx.foldl ZAX (S,List.replicate S.ls.length false)
inductive ZEr:VS->List Bool->VS->Prop
 | done {S:VS} {dn:List Bool}:dn.any id=false->ZEr S dn S
 | step {S S':VS} {dn:List Bool}:dn.any id=true->ZEr (ZEK S dn).1 (ZEK S dn).2 S'->ZEr S dn S'
def ZRR (S:VS) (os:List Out) (S':VS):Prop:=ZEr ⟨S.d,(ZA8 S.ls os).1⟩ (ZA8 S.ls os).2 S'
structure VOk (N A B:Nat) (S:VS):Prop where
 w:WOk N S.d
 f:FOk S.d
 l:∀ x∈S.ls,LOk A B x
 n:S.ls.length<=8
theorem VOk.mono {N A B N' A' B':Nat} {S:VS} (h:VOk N A B S) (h1:N<=N') (h2:A<=A') (h3:B<=B'):VOk N' A' B' S:=⟨h.w.mono h1,h.f,λx hx=>(h.l x hx).mono h2 h3,h.n⟩
theorem ZG9:∀ (a b:List Bool),ZDN (ZDE a b)<=ZDN a+ZDN b
 | [],_=>by simp [ZDE,ZDN]
 | _::_,[]=>by simp [ZDE,ZDN]
 | x::a,y::b=>by have:=ZG9 a b;unfold ZDE ZDN at*;simp only [List.zipWith_cons_cons,List.filter_cons];cases x<;>cases y<;>simp<;>omega
theorem ZLc (n:Nat):ZDN (List.replicate n false)=0:=by unfold ZDN;rw [List.filter_eq_nil_iff.2 (λx hx=>by rw [List.eq_of_mem_replicate hx]; simp)];rfl
theorem ZSC {dn:List Bool} (h:dn.any id=true):1<=ZDN dn:=by obtain ⟨x,hx,hx2⟩:=List.any_eq_true.1 h;unfold ZDN;exact List.length_pos_of_mem (List.mem_filter.2 ⟨hx,hx2⟩)
theorem ZE9 {A B:Nat} {ls:List LS} {os:List Out} (hx:∀ x∈ls,LOk A B x) (ho:∀ o∈os,ZCE o) (hA:A+os.length<=1000000000):
 (∀ x∈(ZA8 ls os).1,LOk (A+os.length) B x)/\(ZA8 ls os).1.length=ls.length/\(ZA8 ls os).2.length=ls.length/\ups (ZA8 ls os).1+ZDN (ZA8 ls os).2<=ups ls/\∀ (i:Nat) (x:LS),(ZA8 ls os).1[i]?=some x->x.s.up=true->∃ y:LS,ls[i]?=some y/\y.s.up=true:=by
 have:=ZHh (B:=B) os (A:=A) (st:=(ls,List.replicate ls.length false)) hx ho hA (by simp);dsimp only at this;rw [ZLc] at this;exact this
theorem ZHY {who:Int}:∀ (bs:List (List ZE)) (acc:List (List ZE)×List Out),(∀ b∈bs,b.length<=64)->(bs.foldl (ZAN who) acc).2.length<=acc.2.length+128*bs.length
 | [],acc,_=>Nat.le_refl _
 | b::bs,acc,h=>by rw [List.foldl_cons];have h1:=ZHY (who:=who) bs (ZAN who acc b) λx hx=>h x (by simp [hx]);have h2:=(ZBi who (b,acc.2)).2;have h3:=h b (by simp);dsimp only at h2;have h4:(ZAN who acc b).2=(ZAA who (b,acc.2)).2:=rfl;rw [h4] at h1;rw [List.length_cons];omega
theorem ZNA {N:Nat}:∀ (qs:List Za) (S:DS),WOk N S->WOk N (qs.foldl goneQ S)
 | [],S,h=>h
 | q::qs,S,h=>ZNA qs (goneQ S q) h.goneQ
theorem ZSO {N:Nat} {who:Int} {S:DS} (i:WOk N S):WOk N {S with books:=(ZBx who S.books).1}:=by
 have key:∀ (bs pre:List (List ZE)) (os:List Out),(∀ b∈bs,ZAo S.seq b)→(∀ b∈pre,ZAo S.seq b)→∀ b∈(bs.foldl (ZAN who) (pre,os)).1,ZAo S.seq b:=by
  intro bs;induction bs with
  | nil=>intro pre os _ hp; exact hp
  | cons b bs ih=>
    intro pre os hb hp;rw [List.foldl_cons];refine ih (pre++[(ZAA who (b,os)).1]) (ZAA who (b,os)).2 (λx hx=>hb x (by simp [hx])) λx hx=>?_;rcases List.mem_append.1 hx with hx|hx
    .exact hp x hx
    .simp only [List.mem_singleton] at hx;subst hx;exact (hb b (by simp)).sub (ZBi who (b,os)).1
 have hl:(ZBx who S.books).1.length=S.books.length:=by have:=ZEy who S.books ([],[]);unfold ZBx;simpa using this
 exact {i with
  bl:=by dsimp only; rw [hl]; exact i.bl
  bl4:=by dsimp only; rw [hl]; exact i.bl4
  books:=key S.books [] [] i.books (by simp)
  ai:=λa ha=>by dsimp only; rw [hl]; exact i.ai a ha}
theorem ZLC {N:Nat} {S:DS} {who:Int} (i:WOk N S):WOk N (ZAW S who).1/\(ZAW S who).2.length<=512:=by refine ⟨ZNA _ _ (ZSO i),?_⟩;have:=ZHY (who:=who) S.books ([],[]) λb hb=>(i.books b hb).2.2.1;have h4:=i.bl4;show (ZBx who S.books).2.length<=512;unfold ZBx;simp only [List.length_nil] at this;omega
theorem ZRv {N A B:Nat} {acc:VS×List Bool} {p:Bool×Nat} (h:VOk N A B acc.1) (hl:acc.2.length=acc.1.ls.length) (hA:A+512<=1000000000):
 VOk N (A+512) B (ZAX acc p).1/\(ZAX acc p).2.length=(ZAX acc p).1.ls.length/\(ZAX acc p).1.ls.length=acc.1.ls.length/\ups (ZAX acc p).1.ls+ZDN (ZAX acc p).2<=ups acc.1.ls+ZDN acc.2/\
  ∀ (i:Nat) (x:LS),(ZAX acc p).1.ls[i]?=some x->x.s.up=true->∃ y:LS,acc.1.ls[i]?=some y/\y.s.up=true:=by
 unfold ZAX;split
 .have hw:=ZLC (who:=(p.2:Int)) h.w;have hf:=ZIN (who:=(p.2:Int)) h.w h.f;have hs:=ZE9 (os:=(ZAW acc.1.d (p.2:Int)).2) h.l hf.2 (by omega);have ht:=ZG9 acc.2 (ZA8 acc.1.ls (ZAW acc.1.d (p.2:Int)).2).2;refine ⟨⟨hw.1,hf.1,λx hx=>(hs.1 x hx).mono (by omega) (Nat.le_refl _),by dsimp only; rw [hs.2.1]; exact h.n⟩,?_,hs.2.1,?_,hs.2.2.2.2⟩
  .dsimp only;unfold ZDE;rw [List.length_zipWith,hs.2.1,hs.2.2.1,hl,Nat.min_self]
  .have:=hs.2.2.2.1;dsimp only;omega
 .exact ⟨h.mono (Nat.le_refl _) (by omega) (Nat.le_refl _),hl,rfl,Nat.le_refl _,λi x hx hu=>⟨x,hx,hu⟩⟩
theorem ZLP {N B:Nat}:∀ (ps:List (Bool×Nat)) {A:Nat} {acc:VS×List Bool},VOk N A B acc.1->acc.2.length=acc.1.ls.length->A+512*ps.length<=1000000000->
 VOk N (A+512*ps.length) B (ps.foldl ZAX acc).1/\(ps.foldl ZAX acc).2.length=(ps.foldl ZAX acc).1.ls.length/\(ps.foldl ZAX acc).1.ls.length=acc.1.ls.length/\ups (ps.foldl ZAX acc).1.ls+ZDN (ps.foldl ZAX acc).2<=ups acc.1.ls+ZDN acc.2/\
  ∀ (i:Nat) (x:LS),(ps.foldl ZAX acc).1.ls[i]?=some x->x.s.up=true->∃ y:LS,acc.1.ls[i]?=some y/\y.s.up=true
 | [],A,acc,h,hl,hA=>⟨h.mono (Nat.le_refl _) (Nat.le_add_right _ _) (Nat.le_refl _),hl,rfl,Nat.le_refl _,λi x hx hu=>⟨x,hx,hu⟩⟩
 | p::ps,A,acc,h,hl,hA=>by rw [List.length_cons] at hA;have hA1:A+512<=1000000000:=Nat.le_trans (by rw [Nat.mul_add]; exact Nat.add_le_add_left (Nat.le_add_left _ _) _) hA;have hA2:A+512+512*ps.length<=1000000000:=Nat.le_trans (by rw [Nat.mul_add,Nat.mul_one]; exact Nat.le_of_eq (by rw [Nat.add_assoc,Nat.add_comm 512])) hA;have h1:=ZRv (p:=p) h hl hA1;have h2:=ZLP ps (A:=A+512) (acc:=ZAX acc p) h1.1 h1.2.1 hA2;rw [List.foldl_cons,List.length_cons];refine ⟨h2.1.mono (Nat.le_refl _) (Nat.le_of_eq (by rw [Nat.mul_add,Nat.mul_one,Nat.add_assoc,Nat.add_comm 512])) (Nat.le_refl _),h2.2.1,h2.2.2.1.trans h1.2.2.1,Nat.le_trans h2.2.2.2.1 h1.2.2.2.1,λi x hx hu=>?_⟩;obtain ⟨y,hy,hyu⟩:=h2.2.2.2.2 i x hx hu;exact h1.2.2.2.2 i y hy hyu
theorem ZUQ (a b:List Bool) (t:Nat) (ht:t<a.length) (hb:a.length=b.length):(ZDE (a.take t) (b.take t)++a.drop t).set t (a[t]||b[t]'(by omega))=ZDE (a.take (t+1)) (b.take (t+1))++a.drop (t+1):=by
 have hl:(ZDE (a.take t) (b.take t)).length=t:=by unfold ZDE; rw [List.length_zipWith,List.length_take,List.length_take]; omega
 rw [List.set_append_right _ _ (by omega),hl,Nat.sub_self,List.drop_eq_getElem_cons ht];have e:ZDE (a.take (t+1)) (b.take (t+1))=ZDE (a.take t) (b.take t)++[a[t]||b[t]'(by omega)]:=by unfold ZDE;rw [List.take_add_one,List.take_add_one,List.getElem?_eq_getElem ht,List.getElem?_eq_getElem (by omega),List.zipWith_append (by rw [List.length_take,List.length_take]; omega)];rfl
 rw [e,List.append_assoc];rfl
section
variable {v:VK} {S:VS} {h:Hp} {l:List Hp} {N A B:Nat}
theorem ZUJ {dk dm:Hp} {k1 n:Nat} {s4:Sl} {xs ys:List Bool} (a:ZBY v S h (dm::dk::l)) (wk:Own cB dk ⟨some ⟨k1,0,none⟩,n,n⟩ xs) (wm:Own cB dm s4 ys) (hab:xs.length=ys.length) (hl:xs.length≤1000) {K:Hp→Prop}
 (hK:∀ d' h',ZBY v S h' (d'::l)->Own cB d' ⟨some ⟨k1,0,none⟩,n,n⟩ (ZDE xs ys)->K h'):
 Zj (0:Int) h fun (J4:Int→Hp→Prop) n1 h8=>ZB (decide (n1<(s4.len:Int)))
   (ZY (fun (u1:PUnit) h9=>J4 (IntKind.i64.wrap (n1+1)) h9) fun J5=>Zl s4.a s4.len n1 fun a4=>ZC cB (a4.add (n1.toNat*1)) h8 fun t3=>Zl (some {block:=k1,off:=0}) n n1 fun a5=>ZC cB (a5.add (n1.toNat*1)) h8 fun t4=>
     ZB t4 (Zl (some {block:=k1,off:=0}) n n1 λa6=>ZV cB (a6.add (n1.toNat*1)) true h8 λh10=>J5 PUnit.unit h10)
      (Zl (some {block:=k1,off:=0}) n n1 λa7=>ZV cB (a7.add (n1.toNat*1)) t3 h8 λh11=>J5 PUnit.unit h11)) (K h8):=by
 have hlm:=wm.1;have hlk:=wk.1;dsimp only at hlk;refine Zb (λz h'=>∃ (t:Nat) (dk:Hp),z=(t:Int)/\t<=xs.length/\ZBY v S h' (dk::dm::l)/\Own cB dk ⟨some ⟨k1,0,none⟩,n,n⟩ (ZDE (xs.take t) (ys.take t)++xs.drop t)) (λz=>xs.length-z.toNat)
  ⟨0,dk,rfl,Nat.zero_le _,a.perm (List.Perm.swap _ _ _),by simpa [ZDE] using wk⟩ ?_
 rintro J z h2 again ⟨t,dk2,rfl,ht,a2,w2⟩
 refine ZJ (λhlt=>?_) λhge=>?_
 .have ht':t<xs.length:=by omega
  have hl2:(ZDE (xs.take t) (ys.take t)).length=t:=by unfold ZDE; rw [List.length_zipWith,List.length_take,List.length_take]; omega
  have hl3:(ZDE (xs.take t) (ys.take t)++xs.drop t).length=xs.length:=by rw [List.length_append,hl2,List.length_drop]; omega
  have hg:(ZDE (xs.take t) (ys.take t)++xs.drop t)[t]?=some xs[t]:=by rw [List.getElem?_append_right (by omega),hl2,Nat.sub_self,List.getElem?_drop,Nat.add_zero,List.getElem?_eq_getElem ht']
  have hbt:ys[t]?=some (ys[t]'(by omega)):=List.getElem?_eq_getElem (by omega);have hstep:=ZUQ xs ys t ht' hab;rw [ZAQ (by omega)];refine ZN (λ_ h'=>∃ dk,ZBY v S h' (dk::dm::l)/\Own cB dk ⟨some ⟨k1,0,none⟩,n,n⟩ (ZDE (xs.take (t+1)) (ys.take (t+1))++xs.drop (t+1))) ?_ λJ5 hJ5=>?_
  .rintro _ h' ⟨dk3,a3,w3⟩;exact again _ _ ⟨t+1,dk3,rfl,by omega,a3,w3⟩ (by omega)
  .refine ZL wm.row (Int.natCast_nonneg t) (by omega) λp hp=>ZO wm.row (a2.sub (by simp)) rfl hp (i:=t) hbt (by rfl) ?_;refine ZL w2.row (Int.natCast_nonneg t) (by omega) λp hp=>ZO w2.row (a2.sub (by simp)) rfl hp (i:=t) hg (by rfl) ?_;have hput:∀ {x:Bool},x=(xs[t]||ys[t]'(by omega))->Zl (some {block:=k1,off:=0}) n (t:Int) λa6=>ZV cB (a6.add ((t:Int).toNat*1)) x h2 λh10=>J5 PUnit.unit h10:=λ{x} hx=>by refine ZQF (sl:=⟨some ⟨k1,0,none⟩,n,n⟩) (x:=x) a2 w2 (by omega) λd5 h5 a5 w5=>?_;rw [hx,hstep] at w5;exact hJ5 _ _ ⟨d5,a5,w5⟩
   refine ZD (λe=>hput ?_) λe=>hput ?_
   .have e:xs[t]=true:=e;rw [e]; rfl
   .have e:xs[t]=false:=e;rw [e]; rfl
 .have hte:t=xs.length:=by omega
  subst hte;rw [List.take_length,List.drop_length,List.append_nil,List.take_of_length_le (by omega)] at w2;exact hK dk2 h2 ((a2.perm (List.Perm.swap _ _ _)).drop) w2
end
theorem ZHl:∀ (ps:List (Bool×Nat)) (acc:VS×List Bool),(∀ p∈ps,p.1=false)→ps.foldl ZAX acc=acc
 | [],acc,_=>rfl
 | p::ps,acc,h=>by
   have e:ZAX acc p=acc:=by unfold ZAX; rw [if_neg (by rw [h p (by simp)]; simp)]
   rw [List.foldl_cons,e];exact ZHl ps acc λq hq=>h q (by simp [hq])
theorem ZIi {T:VS} {dn:List Bool} (h:dn.any id=false):ZEK T dn=(T,List.replicate T.ls.length false):=by
 unfold ZEK;refine ZHl _ _ λp hp=>?_;obtain ⟨j,hj⟩:=List.getElem?_of_mem hp;rw [List.getElem?_zipIdx] at hj;cases hd:dn[j]? with
 | none=>rw [hd] at hj; cases hj
 | some x=>
   rw [hd] at hj;simp only [Option.map_some,Option.some.injEq] at hj;have:=List.any_eq_false.1 h x (List.mem_of_getElem? hd);rw [<-hj];simpa using this
section
variable {v:VK} {S:VS} {h:Hp} {l:List Hp} {N A B:Nat}
theorem ZY3 (ls:List LS):ups ls<=ls.length:=List.length_filter_le _ _
theorem ZUF (dn:List Bool) (j:Nat) (hj:j<dn.length):(dn.take (j+1)).any id=((dn.take j).any id||dn[j]):=by rw [List.take_add_one,List.getElem?_eq_getElem hj,List.any_append];simp
theorem ZD7 {p:Sl} {g:Hp} {os:List Out} (a:ZBY v S h l) (hg:g∈l) (r:Row ZCJ g p os) (ok:VOk N A B S) (hN:N≤10000) (ho:∀ o∈os,ZCE o) (hA:A+os.length+80000≤1000000000)
 {Q:PUnit->Hp->Prop} (hq:∀ T h',ZBY v T h' l->ZRR S os T->VOk N (A+os.length+80000) B T->T.ls.length=S.ls.length->Q ⟨⟩ h'):ZA TP 65 [Value.pointer v.p,Value.slice p.a p.len p.cap] (ZW []) h Q:=by
 refine c65 ?_;unfold F65;have hn8:=ok.n;refine ZOM a hg r ok.l ho (by omega) (by omega) λs1 d1 h1 a1 w1=>?_;have sf:=ZE9 (os:=os) ok.l ho (by omega);unfold ZRR at hq;generalize hS0:(⟨S.d,(ZA8 S.ls os).1⟩:VS)=S0 at*;have ok0:VOk N (A+os.length) B S0:=by rw [<-hS0]; exact ⟨ok.w,ok.f,sf.1,by dsimp only; rw [sf.2.1]; exact hn8⟩
 have hl0:S0.ls.length=S.ls.length:=by rw [<-hS0]; exact sf.2.1
 have hd0:(ZA8 S.ls os).2.length=S0.ls.length:=by rw [hl0]; exact sf.2.2.1
 generalize (ZA8 S.ls os).2=dn0 at*;have hu0:=ZY3 S0.ls;refine ZV8 (λf z h'=>∃ (T:VS) (dn:List Bool) (d:Hp),f=2*ups T.ls+(if dn.any id=true then 1 else 0)+(if z.2=true then 1 else 0)/\ZBY v T h' (d::l)/\Own cB d z.1 dn/\dn.length=T.ls.length/\VOk N (A+os.length+4096*(18-f)) B T/\f<=18/\T.ls.length=S.ls.length/\
  (z.2=false->ZEr S0 dn0 T)/\(z.2=true->∀ U,ZEr T dn U->ZEr S0 dn0 U)) (2*ups S0.ls+(if dn0.any id=true then 1 else 0)+1)
  ⟨S0,dn0,d1,rfl,a1,w1,hd0,ok0.mono (Nat.le_refl _) (Nat.le_add_right _ _) (Nat.le_refl _),by split<;>omega,hl0,(λh=>by cases h),λ_ U hU=>hU⟩ ?_
 rintro J f ⟨sl,any⟩ h2 again ⟨T,dn,d,hf,a2,w2,hdl,ok2,hf18,hTl,hr0,hr1⟩
 dsimp only at hf w2 hr0 hr1 ⊢;have hvl:=a2.len;have hlen:=w2.1;refine ZD (λe=>?_) λe=>?_
 ·subst e;dsimp only [ZR,VK.p];refine ZF (cd:=cSl) (x:=v.sl) a2.ob (i:=1) rfl ?_;refine ⟨by omega,by omega,by omega,by omega,?_⟩;refine a2.new fun k1 h3 a3=>?_;have en:((v.sl.len:Int)).toNat=T.ls.length:=by omega
  rw [en] at a3 ⊢;have hzl:dn.zipIdx.length=dn.length:=List.length_zipIdx;have hA4:A+os.length+4096*(18-f)+4096<=1000000000:=by omega
  have rk:∀ j,j<=dn.length->_:=λj hj=>ZLP (B:=B) (dn.zipIdx.take j) (A:=A+os.length+4096*(18-f)) (acc:=(T,List.replicate T.ls.length false)) ok2 (by simp) (by rw [List.length_take]; omega);refine Zb (λz h'=>∃ (j:Nat) (dk:Hp),z=((dn.take j).any id,(j:Int))/\j<=dn.length/\ZBY v ((dn.zipIdx.take j).foldl ZAX (T,List.replicate T.ls.length false)).1 h' (dk::d::l)/\Own cB dk ⟨some ⟨k1,0,none⟩,T.ls.length,T.ls.length⟩ ((dn.zipIdx.take j).foldl ZAX (T,List.replicate T.ls.length false)).2) (λz=>dn.length-z.2.toNat)
   ⟨0,_,rfl,Nat.zero_le _,a3,ZVz⟩ ?_
  rintro J2 z h4 again2 ⟨j,dk,rfl,hj,a4,w4⟩;dsimp only;have hr:=rk j hj;refine ZJ (λhlt=>?_) λhge=>?_
  ·have hj':j<dn.length:=by omega
   have a0:dn.zipIdx[j]?=some (dn[j],j):=by rw [List.getElem?_zipIdx,List.getElem?_eq_getElem hj']; simp
   have est:=Z7 ZAX (T,List.replicate T.ls.length false) dn.zipIdx a0;have ean:=ZUF dn j hj';rw [ZAQ (by omega)];generalize hacc:(dn.zipIdx.take j).foldl ZAX (T,List.replicate T.ls.length false)=acc at*;obtain ⟨U,un⟩:=acc;dsimp only at a4 w4 hr;obtain ⟨ok4,hul,hUl,_⟩:=hr;refine ZN (λt h'=>t=(dn.take (j+1)).any id/\∃ dk,ZBY v (ZAX (U,un) (dn[j],j)).1 h' (dk::d::l)/\Own cB dk ⟨some ⟨k1,0,none⟩,T.ls.length,T.ls.length⟩ (ZAX (U,un) (dn[j],j)).2) ?_ λJ3 hJ3=>?_
   .rintro t h' ⟨rfl,dk5,a5,w5⟩;exact again2 _ _ ⟨j+1,dk5,rfl,by omega,by rw [est]; exact a5,by rw [est]; exact w5⟩ (by dsimp only; omega)
   .refine ZL w2.row (Int.natCast_nonneg j) (by omega) λq hq'=>ZO w2.row (a4.sub (by simp)) rfl hq' (i:=j) (List.getElem?_eq_getElem hj') (by rfl) ?_;unfold ZAX at hJ3;dsimp only at hJ3;refine ZD (λe=>?_) λe=>?_
    .have e:dn[j]=false:=by simpa using e
     rw [if_neg (by rw [e]; simp)] at hJ3;exact hJ3 _ _ ⟨by rw [ean,e,Bool.or_false],dk,a4,w4⟩
    .have e:dn[j]=true:=by simpa using e
     rw [if_pos e] at hJ3;refine ZF (cd:=Go.Eng.cP) (x:=v.k.p) a4.ob (i:=0) rfl ?_;obtain ⟨R,b4,cl⟩:=a4.desk;refine Go.Proofs.YtkmniidiifpdgaaGreat.ZHN (who:=(j:Int)) b4 ok4.w hN λs5 d5 h5 b5 w5 _ hol=>?_;have hgw:=ZLC (who:=(j:Int)) ok4.w;have hgf:=ZIN (who:=(j:Int)) ok4.w ok4.f;have a5:=cl h5 (d5::dk::d::l) (ZAW U.d (j:Int)).1 (b5.perm (List.Perm.swap _ _ _));have hAl:=ok4.l;have hsfx:=ZE9 (os:=(ZAW U.d (j:Int)).2) hAl hgf.2 (by rw [List.length_take]; omega);refine ZOM (g:=d5) a5 (by simp) w5.row hAl hgf.2 (by rw [List.length_take]; omega) (by dsimp only; omega) λs6 d6 h6 a6 w6=>?_;have w6:Own cB d6 s6 (ZA8 U.ls (ZAW U.d (j:Int)).2).2:=w6;have a7:ZBY v ⟨(ZAW U.d (j:Int)).1,(ZA8 U.ls (ZAW U.d (j:Int)).2).1⟩ h6 (d6::dk::d::l):=(a6.perm (((List.Perm.swap _ _ _)).trans (List.Perm.refl _))).drop;refine ZUJ a7 w4 w6 (by rw [hul,hsfx.2.2.1]) (by omega) λd8 h8 a8 w8=>?_;exact hJ3 _ _ ⟨by rw [ean,e,Bool.or_true],d8,a8,w8⟩
  ·have hje:j=dn.length:=by omega
   subst hje;rw [List.take_length];have hfull:dn.zipIdx.take dn.length=dn.zipIdx:=by rw [<-hzl,List.take_length]
   rw [hfull] at a4 w4 hr;have hrv:dn.zipIdx.foldl ZAX (T,List.replicate T.ls.length false)=ZEK T dn:=rfl;rw [hrv] at a4 w4 hr;obtain ⟨ok4,hul,hUl,hct,_⟩:=hr;rw [ZLc] at hct;dsimp only at hUl hct;have a5:ZBY v (ZEK T dn).1 h4 (dk::l):=(a4.perm (List.Perm.swap _ _ _)).drop;have h8:=ok2.n;generalize hf2:2*ups (ZEK T dn).1.ls+(if (ZEK T dn).2.any id=true then 1 else 0)+(if dn.any id=true then 1 else 0)=f2
   have hstep:f2<f:=by
    cases ea:dn.any id with
    | false=>
      rw [ea] at hf hf2;rw [ZIi ea] at hf2;have er:(List.replicate T.ls.length false).any id=false:=by rw [List.any_eq_false];intro x hx;rw [List.eq_of_mem_replicate hx]; simp
      dsimp only at hf2;rw [er] at hf2;simp at hf hf2;omega
    | true=>
      rw [ea] at hf hf2;cases eb:(ZEK T dn).2.any id with
      | true=>
        have:=ZSC eb;rw [eb] at hf2;simp at hf hf2;omega
      | false=>
        rw [eb] at hf2;simp at hf hf2;omega
   refine again f2 _ _ ⟨(ZEK T dn).1,(ZEK T dn).2,dk,hf2.symm,a5,w4,hul,?_,?_,hUl.trans hTl,?_,?_⟩ ?_
   .refine ok4.mono (Nat.le_refl _) ?_ (Nat.le_refl _);rw [hzl,hdl];have hff:=hstep;have h512:512*T.ls.length<=4096:=by omega
    have h6:4096*(18-f)+4096<=4096*(18-f2):=by rw [<-Nat.mul_succ];exact Nat.mul_le_mul_left _ (by omega)
    omega
   .omega
   .intro ea;rw [ZIi ea];exact hr1 rfl T (ZEr.done ea)
   .exact λea U hU=>hr1 rfl U (ZEr.step ea hU)
   .exact hstep
 .have e:any=false:=e;subst e;exact hq T h2 a2.drop (hr0 rfl) (ok2.mono (Nat.le_refl _) (by omega) (Nat.le_refl _)) hTl
end
def ZRG (beat:Int):LS:=⟨[],0,ZW7 beat.toNat,[]⟩
def ZJI (bs:List Bond) (ps:List ZAa) (look beat:Int):VS:=⟨ZD0 bs ps look beat,List.replicate ps.length (ZRG beat)⟩
theorem ZVM {bs:List Bond} {ps:List ZAa} {look beat:Int} (h:ZC8 bs ps look beat=true):VOk 0 0 0 (ZJI bs ps look beat):=by
 have hw:=ZFR h;have hb:1<=beat/\beat<=1000:=by unfold ZC8 inB at h;simp only [Bool.and_eq_true,decide_eq_true_eq] at h;omega
 refine ⟨hw,⟨λb hb=>?_,(λq hq=>by cases hq),λa ha=>by cases ha⟩,λx hx=>?_,?_⟩
 .have:=List.eq_of_mem_replicate hb;subst this;exact λx hx=>by cases hx
 .have:=List.eq_of_mem_replicate hx;subst this;exact ⟨(λb hb=>by cases hb),Nat.le_refl 1,(λf hf=>by cases hf),Nat.le_refl 0,(by show 1<=beat.toNat/\beat.toNat<=1000; omega),Nat.le_refl 0,Nat.le_refl 0,Nat.zero_le _,ZDc.nil⟩
 .show (List.replicate ps.length (ZRG beat)).length<=8;rw [List.length_replicate];exact hw.pl
section
variable {h:Hp} {l:List Hp}
theorem ZX3 {sb sp:Sl} {gb gp:Hp} {bs:List Bond} {ps:List ZAa} {look beat:Int} (o:On h l) (hb:gb∈l) (rb:Row ZAB gb sb bs) (hp:gp∈l) (rp:Row Z2 gp sp ps) (hr:ZC8 bs ps look beat=true)
 {Q:Option Addr->Hp->Prop} (hq:∀ v h',ZBY v (ZJI bs ps look beat) h' l->Q v.p h'):ZA TP 24 [ZAq.enc ⟨sb,sp,look,beat⟩] Go.Eng.cP h Q:=by
 have hpl:ps.length<=8:=(ZFR hr).pl;have hbt:1<=beat/\beat<=1000:=by unfold ZC8 inB at hr;simp only [Bool.and_eq_true,decide_eq_true_eq] at hr;omega
 have hlp:=rp.1;refine c24 (p0:=⟨sb,sp,look,beat⟩) ?_;unfold F24;refine ZIM o hb rb hp rp hr λk h1 a1=>?_;obtain ⟨D,o1,wD⟩:=a1;refine ZT rfl ?_;refine ZH (vs:=ZB1 ⟨0,k,⟨none,0,0⟩,[]⟩) o1 λk2 h2 o2=>?_;refine Zb (λz h'=>∃ (j:Nat) (sK:Sl) (dK:Hp) (ks:List (Option Addr)) (cs:List Hp),z=(j:Int)/\j<=ps.length/\ks.length=j/\On h' (ob k2 (ZB1 ⟨k2,k,sK,[]⟩) 152::dK::(cs++(D::l)))/\Own Go.Eng.cP dK sK ks/\ZI6 ks (List.replicate j (ZRG beat)) cs) (λz=>ps.length-z.toNat)
  ⟨0,⟨none,0,0⟩,Hp.emp,[],[],rfl,Nat.zero_le _,rfl,o2.emp.swap,Own.nil _,⟨rfl,rfl,λi p b c h=>by cases h⟩⟩ ?_
 rintro J z h3 again ⟨j,sK,dK,ks,cs,rfl,hj,hkl,o3,wK,wb⟩
 refine ZJ (λhlt=>?_) λhge=>?_
 .have hj':j<ps.length:=by have:(j:Int)<(sp.len:Int):=hlt;omega
  refine ZI (cd:=cSl) (x:=sK) o3 0 (i:=1) rfl rfl ?_;refine ZUz (n:=beat) o3 (λh=>by omega) λ_ _ p4 c4 h4 o4 w4=>?_;refine ⟨⟨Hp.sub_rds (o4.get (i:=1) rfl) (ZCS (i:=1) rfl),trivial⟩,?_⟩;refine ZH o4 λk5 h5 o5=>?_;have o5':=o5.pick [3,0,2,1] 4 (by decide) (by decide);refine ZU (cd:=Go.Eng.cP) (g:=ob k5 [Value.pointer p4] 153) (s:=sK) (t:=⟨some ⟨k5,0,none⟩,1,1⟩) (ys:=[p4]) o5' rfl wK (by decide) (Ze (by rfl) rfl) (o5.get (i:=0) rfl) ?_ λd6 p n m h6 o6 w6=>?_
  .rw [List.length_singleton];exact Nat.le_trans (Nat.mul_le_mul_right _ (show _<=100 by omega)) (by decide)
  .refine ZZ (cd:=cSl) (i:=1) (x:=⟨p,n,m⟩) (vs':=ZB1 ⟨k2,k,⟨p,n,m⟩,[]⟩) (o6.pick [2,0,1,3] 4 (by decide) (by decide)) rfl rfl (by show 1+1<=2; omega) λh7 o7=>?_;rw [ZAQ (by omega)];refine again _ _ ⟨j+1,⟨p,n,m⟩,d6,ks++[p4],cs++[c4],rfl,by omega,by simp [hkl],?_,w6,?_⟩ (by omega)
   .have o8:=o7.pick [0,1,3] 4 (by decide) (by decide);refine o8.perm (List.Perm.cons _ (List.Perm.cons _ ?_));show (c4::(cs++_)).Perm ((cs++[c4])++_);rw [List.append_assoc];exact List.perm_middle.symm
   .rw [List.replicate_succ'];exact wb.push w4
 .have hje:j=ps.length:=by have:¬(j:Int)<(sp.len:Int):=hge;omega
  subst hje;refine hq ⟨k2,k,sK,ks⟩ h3 ⟨dK,D,ks,cs,o3.perm (List.Perm.cons _ (List.Perm.cons _ ?_)),⟨wK,rfl⟩,wD,wb⟩;exact List.perm_middle
end
def Ids (P:Int->Prop) (l:List ZE):Prop:=∀ x∈l,P x.ID
theorem Ids.drop {P:Int->Prop} {l:List ZE} (h:Ids P l) (id:Int):Ids P (ZBC l id):=λx hx=>h x ((Zy l id).subset hx)
theorem Ids.less {P:Int->Prop} {l:List ZE} (h:Ids P l) (id left:Int):Ids P (ZDD l id left).1:=by
 rcases ZCB l id left with e|⟨i,o,ho,_,_,_,e⟩
 .rw [e]; exact h
 .rw [e];intro x hx;rcases List.mem_or_eq_of_mem_set hx with hx|hx
  .exact h x hx
  .subst hx;exact h o (List.mem_of_getElem? ho)
theorem Ids.add {P:Int→Prop} {l:List ZE} (h:Ids P l) {o:ZE} (ho:P o.ID):Ids P (ZLu l o).1:=by
 unfold ZLu;split
 .exact h
 .split
  .exact h
  .intro x hx;rcases List.mem_append.1 hx with hx|hx
   .exact h x hx
   .simp only [List.mem_singleton] at hx;subst hx; exact ho
def ZRs (P:Int->Prop) (g:ZOs):Prop:=P g.ID/\1<=g.Left/\g.Left<=1000000
def ZXG (P:Int->Prop) (f:ZH5):Prop:=P f.Maker/\0<=f.Left/\f.Left<=1000000
def ZIZ (P:Int->Prop) (c:ZB5):Prop:=Ids P c.l/\(∀ f∈c.fills,ZXG P f)/\(∀ g∈c.gone,ZRs P g)/\0<=c.o.Left/\c.o.Left<=1000000
theorem ZIZ.meet {P:Int→Prop} {c:ZB5} {x:ZE} (h:ZIZ P c) (hx:1≤x.Left∧x.Left≤1000000) (hp:P x.ID):ZIZ P (Zi c x):=by
 obtain ⟨h1,h2,h3,h4,h5⟩:=h;have hl:=ZER (c:=c) (x:=x) ⟨h4,h5⟩ (by omega);refine ⟨?_,?_,?_,hl⟩
 ·unfold Zi;split
  .exact h1
  .split
   .exact h1.drop _
   .dsimp only;split
    .exact h1.drop _
    .exact h1.less _ _
 ·unfold Zi;split
  .exact h2
  .split
   .exact h2
   .intro f hf;rcases List.mem_append.1 hf with hf|hf
    .exact h2 f hf
    .simp only [List.mem_singleton] at hf;subst hf;refine ⟨hp,?_⟩;unfold ZEt;dsimp only;omega
 ·unfold Zi;split
  .exact h3
  .split
   .intro g hg;rcases List.mem_append.1 hg with hg|hg
    .exact h3 g hg
    .simp only [List.mem_singleton] at hg;subst hg;exact ⟨hp,hx⟩
   .exact h3
theorem ZRI {P:Int→Prop} {l:List ZE} {o:ZE} {how:Int} (h:Ids P l) (hs:ZFe l) (ho:0≤o.Left∧o.Left≤1000000):ZIZ P (ZAJ l o how):=by
 have key:∀ (ms:List ZE) (c:ZB5),(∀ y∈ms,y∈l)→ZIZ P c→ZIZ P (ms.foldl Zi c):=by
  intro ms;induction ms with
  | nil=>intro c _ hc; exact hc
  | cons x ms ih=>
    intro c hms hc;have hx:=hms x (by simp);exact ih (Zi c x) (λy hy=>hms y (by simp [hy])) (hc.meet ⟨(hs x hx).1,(hs x hx).2.1⟩ (h x hx))
 exact key _ _ (λy hy=>ZCD hy) ⟨h,by simp,by simp,ho.1,ho.2⟩
theorem ZaL {P:Int→Prop} {l:List ZE} {o:ZE} {how:Int} (h:Ids P l) (hs:ZFe l) (ho:P o.ID):
 Ids P (doV l o how).1/\(∀ f∈(doV l o how).2.1,ZXG P f)/\(∀ g∈(doV l o how).2.2.1,ZRs P g)/\0<=(doV l o how).2.2.2.1/\(doV l o how).2.2.2.1<=1000000:=by
 unfold doV;by_cases e:ZBW l o how≠0
 .rw [if_pos e];exact ⟨h,by simp,by simp,Int.le_refl 0,by show (0:Int)<=1000000; omega⟩
 ·rw [if_neg e];have hl:=ZFw (Classical.not_not.1 e);obtain ⟨c1,c2,c3,c4,c5⟩:=ZRI (how:=how) h hs (o:=o) ⟨by omega,hl.2⟩;have hid:(ZAJ l o how).o.ID=o.ID:=by
   unfold ZAJ;have key:∀ (ms:List ZE) (c:ZB5),(ms.foldl Zi c).o.ID=c.o.ID:=by
    intro ms;induction ms with
    | nil=>intro c; rfl
    | cons x ms ih=>intro c; rw [List.foldl_cons,ih,(ZGM c x).1]
   exact key _ _
  refine ⟨?_,c2,c3,c4,c5⟩;dsimp only;split
  .exact c1.add (by rw [hid]; exact ho)
  .exact c1
structure COk (N:Nat) (c:DC):Prop where
 w:WOk N c.d
 f:FOk c.d
 o:∀ o∈c.outs,ZCE o
 i:I64 c.id
theorem Zr {n:Int} (h1:0<=n) (h2:n<=1000000):I64 n:=⟨by omega,by omega⟩
theorem ZFX {os:List Out} (h:∀ o∈os,ZCE o) {x:Out} (hx:ZCE x):∀ o∈os++[x],ZCE o:=λo ho=>(List.mem_append.1 ho).elim (h o) λe=>by simp only [List.mem_singleton] at e;subst e; exact hx
theorem COk.tell {N:Nat} {c:DC} (h:COk N c) {to kind:Int} {ns:List Int} (hk:I64 kind) (hn:∀ n∈ns,I64 n):COk N (ZBQ c to kind ns):=⟨h.w,h.f,ZFX h.o (ZD2 hk hn),h.i⟩
theorem ZQn {who:Int}:∀ (gs:List ZOs) (c:DC),(∀ g∈gs,ZRs I64 g)→(∀ o∈c.outs,ZCE o)→∀ o∈(gs.foldl (ZB3 who) c).outs,ZCE o
 | [],c,_,h=>h
 | g::gs,c,hg,h=>by
   rw [List.foldl_cons];refine ZQn gs (ZB3 who c g) (λx hx=>hg x (by simp [hx])) ?_;have hgg:=hg g (by simp);refine ZFX h (ZD2 ⟨by decide,by decide⟩ λn hn=>?_);simp only [List.mem_cons,List.not_mem_nil,or_false] at hn;rcases hn with rfl|rfl
   .exact hgg.1
   .exact Zr (by have:=hgg.2; omega) hgg.2.2
theorem ZSQ {who n:Int} {o:ZE} (hw:I64 who) (hn:I64 n) (ho:I64 o.ID):∀ (fs:List ZH5) (st:DC×Int),(∀ f∈fs,ZLR f∧ZXG I64 f)→I64 st.1.d.now→st.1.d.trades.length+fs.length≤1000000→(∀ o∈st.1.outs,ZCE o)→∀ x∈(fs.foldl (ZBm who n o) st).1.outs,ZCE x
 | [],st,_,_,_,h=>h
 | f::fs,st,hf,hnow,hl,h=>by
   rw [List.length_cons] at hl;rw [List.foldl_cons];have hff:=hf f (by simp);obtain ⟨⟨f1,f2,f3,f4,f5,f6⟩,g1,g2,g3⟩:=hff;have hr:=ZDm (st.2-f.Qty);have ht:ZCx (ZLZ st.1.d.trades (ZBI st.1.d o.Side who f.MakerParty (ZMc n f))):=by
    unfold ZLZ ZBI ZMc ZCx;dsimp only;refine ⟨Zr (by omega) (by omega),hn,?_,?_,Zr (by omega) (by omega),Zr (by omega) (by omega),Zr (by omega) (by omega),hnow⟩
    .split
     .exact Zr (by omega) (by omega)
     .exact hw
    .split
     .exact hw
     .exact Zr (by omega) (by omega)
   refine ZSQ hw hn ho fs (ZBm who n o st f) (λx hx=>hf x (by simp [hx])) hnow ?_ ?_
   .show (st.1.d.trades++[_]).length+fs.length<=1000000;rw [List.length_append,List.length_singleton]; omega
   ·intro x hx;have hx:x∈((st.1.outs++[ZEb f.MakerParty 20 [f.Maker,f.Price,f.Qty,f.Left]])++[ZEb who 20 [o.ID,f.Price,f.Qty,IntKind.i64.wrap (st.2-f.Qty)]])++ZFf (ZLZ st.1.d.trades (ZBI st.1.d o.Side who f.MakerParty (ZMc n f))):=hx;rcases List.mem_append.1 hx with hx|hx
    .refine ZFX (ZFX h (ZD2 ⟨by decide,by decide⟩ λn hn=>?_)) (ZD2 ⟨by decide,by decide⟩ λn hn=>?_) x hx
     .simp only [List.mem_cons,List.not_mem_nil,or_false] at hn;rcases hn with rfl|rfl|rfl|rfl
      .exact g1
      .exact Zr (by omega) (by omega)
      .exact Zr (by omega) (by omega)
      .exact Zr (by omega) (by omega)
     .simp only [List.mem_cons,List.not_mem_nil,or_false] at hn;rcases hn with rfl|rfl|rfl|rfl
      .exact ho
      .exact Zr (by omega) (by omega)
      .exact Zr (by omega) (by omega)
      .exact hr
    .exact ZNC ht x hx
theorem COk.meets {N:Nat} {c:DC} (h:COk N c) (hN:N≤9000) {who n how:Int} {o:ZE} (hn:0≤n∧n<c.d.books.length) (hw:0≤who∧who<8) (ho:0≤o.Owner∧o.Owner<8) (hi:I64 o.ID):COk (N+1) (Zt c who n o how).1:=by
 have hbk:=ZBS h.w hn;have hget:=ZAc hn;have hids:Ids I64 (Zc c.d n):=λx hx=>h.f.bo (Zc c.d n) (by rw [hget]; exact List.getElem_mem _) x hx;have hp:=ZaL (o:=ZDv c o) (how:=how) hids hbk.2.1 hi;have hdo:=ZOX (o:=ZDv c o) (how:=how) hbk rfl ho;obtain ⟨e1,e2,e3⟩:=ZBp c who n o how;have hl4:=h.w.l4;have hbl:=h.w.bl4;refine ⟨h.w.meets hn ho,?_,?_,by rw [e2]; exact h.i⟩
 .rw [e1];exact {h.f with bo:=λb hb=>(List.mem_or_eq_of_mem_set hb).elim (h.f.bo b) λe=>by subst e; exact hp.1}
 ·unfold Zt;have hfl:=hdo.2.2.1;have hfo:=hdo.2.1;generalize doV (Zc c.d n) (ZDv c o) how=r at hp hfl hfo;by_cases he:r.2.2.2.2≠0
  .rw [if_pos he]; exact h.o
  .rw [if_neg he];have hg:=ZQn (who:=who) r.2.2.1 (ZH7 c n r.1) hp.2.2.1 h.o;have hgd:=(ZJd who r.2.2.1 (ZH7 c n r.1)).1;have hfs:=ZSQ (who:=who) (n:=n) (o:=o) (Zr (by omega) (by omega)) (Zr (by omega) (by omega)) hi r.2.1 (r.2.2.1.foldl (ZB3 who) (ZH7 c n r.1),o.Left) (λf hf=>⟨hfo f hf,hp.2.1 f hf⟩) (by dsimp only; rw [hgd]; exact h.w.now) (by dsimp only; rw [hgd]; show c.d.trades.length+_<=_; omega) hg;dsimp only;split
   .refine ZFX hfs (ZD2 ⟨by decide,by decide⟩ λn hn=>?_);simp only [List.mem_cons,List.not_mem_nil,or_false] at hn;rcases hn with rfl|rfl
    .exact hi
    .exact Zr hp.2.2.2.1 hp.2.2.2.2
   .exact hfs
def ZE1 (m:Msg):Prop:=I64 m.Kind/\I64 m.F_0/\I64 m.F_1/\I64 m.F_2/\I64 m.F_3/\I64 m.F_4/\I64 m.F_5
theorem COk.mono {N N':Nat} {c:DC} (h:COk N c) (hN:N<=N'):COk N' c:=⟨h.w.mono hN,h.f,h.o,h.i⟩
theorem COk.id {N:Nat} {c:DC} (h:COk N c) {id:Int} (hi:I64 id):COk N {c with id:=id}:=⟨h.w,h.f,h.o,hi⟩
theorem COk.book {N:Nat} {c:DC} (h:COk N c) {n:Int} {x:List ZE} (hx:ZAo c.d.seq x) (hi:Ids I64 x):COk N {c with d:=ZA7 c.d n x}:=
 ⟨h.w.book hx,{h.f with bo:=λb hb=>(List.mem_or_eq_of_mem_set hb).elim (h.f.bo b) λe=>by subst e; exact hi},h.o,h.i⟩
theorem ZVX {N:Nat} {c:DC} (h:COk N c) {n:Int} (hn:0<=n/\n<c.d.books.length):Ids I64 (Zc c.d n):=λx hx=>h.f.bo (Zc c.d n) (by rw [ZAc hn]; exact List.getElem_mem _) x hx
theorem ZXI {N:Nat} {c:DC} (h:COk N c) (hN:N<=9000) {who:Int} {m:Msg} (hw:0<=who/\who<8):COk (N+1) (ZA4 c who m).1:=by
 have h':=h.mono (Nat.le_succ N);have hc1:=h.w.c1;unfold ZA4;split
 .exact h'
 rename_i hb;have hb:isBond c.d m.F_0=true:=by simpa using hb
 split
 .exact h'
 split
 .exact h'
 have hm:=h.meets hN (who:=who) (n:=m.F_0) (how:=m.F_4) (o:=Zs c who m) (ZBL.1 hb) hw hw (Zr (by show 0<=c.d.order+1; omega) (by show c.d.order+1<=_; omega));have hd:=(ZBp c who m.F_0 (Zs c who m) m.F_4).1;generalize Zt c who m.F_0 (Zs c who m) m.F_4=r at*;have ho:r.1.d.order=c.d.order:=by rw [hd]
 split
 .refine ⟨{hm.w with c1:=by show 0<=r.1.d.order+1/\r.1.d.order+1<=((N+1:Nat):Int); omega},{hm.f with},hm.o,?_⟩;show I64 (r.1.d.order+1);exact Zr (by omega) (by omega)
 .exact hm
theorem ZVi {N:Nat} {c:DC} (h:COk N c) (hN:N≤9000) {who:Int} {m:Msg} (hw:0≤who∧who<8) (hm:ZE1 m):COk (N+1) (ZAM c who m).1:=by
 have h':=h.mono (Nat.le_succ N);unfold ZAM;split
 .exact ZXI h hN hw
 cases hf:ZAi c.d m.F_0 with
 | none=>exact h'
 | some n=>
   dsimp only;obtain ⟨hn,x,hx,hxm,hxi,hR⟩:=ZDg hf;have hnn:0<=((n:Nat):Int)/\((n:Nat):Int)<c.d.books.length:=⟨Int.natCast_nonneg _,by omega⟩
   have hbk:=ZBS h.w hnn;have hids:=ZVX h hnn;have hxb:x∈Zc c.d ((n:Nat):Int):=by rw [ZAc hnn]; exact hxm
   have hxs:=hbk.2.1 x hxb;have hxo:=hbk.2.2.2 x hxb;rw [hR];dsimp only;split
   .exact h'
   split
   .unfold ZDC;dsimp only;split
    .exact h'.id hm.2.1
    split
    .exact (h'.id hm.2.1).book (hbk.less _ _) (hids.less _ _)
    .have h2:COk N {c with id:=m.F_0,d:=ZA7 c.d (n:Int) (ZBC (Zc c.d (n:Int)) x.ID)}:=(h.id hm.2.1).book (c:={c with id:=m.F_0}) (hbk.sub (Zy _ _)) (hids.drop _);exact h2.meets hN (o:=ZGD x m.F_1 m.F_2) (by show 0<=_/\_<((List.set _ _ _).length:Int); rw [List.length_set]; exact hnn) hw hxo.2 (hids x hxb)
   .unfold ZMD;refine ((h'.id hm.2.1).book (c:={c with id:=m.F_0}) (n:=(n:Int)) (hbk.sub (Zy _ m.F_0)) (hids.drop _)).tell ⟨by decide,by decide⟩ λk hk=>?_;simp only [List.mem_cons,List.not_mem_nil,or_false] at hk;rcases hk with rfl|rfl
    .exact hm.2.1
    .exact Zr (by omega) hxs.2.1
theorem ZZM {N:Nat} {c:DC} (h:COk N c) {n is:Int} (hn:I64 n):COk N (ZGh c n is).1:=by
 unfold ZGh;split
 .exact h
 rename_i hb;have hb:isBond c.d n=true:=by simpa using hb
 split
 .exact h
 obtain ⟨hm,_⟩:=ZA6 hb h.w.bl;refine ⟨{h.w with bonds:=λb hb'=>?_,bl:=by show c.d.books.length=(List.set _ _ _).length; rw [List.length_set]; exact h.w.bl},{h.f with},h.o,hn⟩;rcases List.mem_or_eq_of_mem_set hb' with hb'|hb'
 .exact h.w.bonds b hb'
 .subst hb';exact (show _ from h.w.bonds (ZAY c.d n) hm)
def ZTU (a:Ask):Prop:=I64 a.Side/\I64 a.Ends/\I64 a.Hit
theorem ZXm {xs:List Ask} {id:Int} {f:Ask->Ask} (h:∀ a∈xs,ZTU a) (hf:∀ a,ZTU a->ZTU (f a)):∀ a∈upd Ask.ID id f xs,ZTU a:=λa ha=>by
 obtain ⟨x,hx,rfl|⟨_,rfl⟩⟩:=ZH0 ha
 .exact h a hx
 .exact hf x (h x hx)
theorem ZF5:I64 0:=⟨by decide,by decide⟩
theorem ZWA {xs:List Ask} {id st:Int} (h:∀ a∈xs,ZTU a):∀ a∈(ZRe xs id st).1,ZTU a:=by
 rcases ZGI xs id st with e|e<;>rw [e]
 .exact h
 .exact ZXm h λa ha=>⟨ha.1,ha.2.1,by unfold ZXP; dsimp only; split; exact ZF5; exact ha.2.2⟩
theorem ZW2 {xs:List Ask} {id:Int} (h:∀ a∈xs,ZTU a):∀ a∈(ZGl xs id).1,ZTU a:=by
 rcases ZE3 xs id with e|e<;>rw [e]
 .exact h
 .exact ZXm h λa ha=>⟨ha.1,ha.2.1,ZF5⟩
theorem ZX1 {xs:List Ask} {id q u:Int} (h:∀ a∈xs,ZTU a) (hq:I64 q):∀ a∈(ZDX xs id q u).1,ZTU a:=by
 rcases ZHU xs id q u with e|e<;>rw [e]
 .exact h
 .exact ZXm h λa ha=>⟨ha.1,ha.2.1,hq⟩
theorem ZTL {xs:List Za} {id:Int} (h:∀ q∈xs,I64 q.ID/\I64 q.Expires):∀ q∈ZIr xs id,I64 q.ID/\I64 q.Expires:=λq hq=>h q (List.mem_filter.1 hq).1
theorem ZZ1 {P:Int->Prop} {a b:Int} (ha:P a) (hb:P b):∀ n∈[a,b],P n:=λn hn=>by
 simp only [List.mem_cons,List.not_mem_nil,or_false] at hn;rcases hn with rfl|rfl
 .exact ha
 .exact hb
theorem Zag {P:Int->Prop} {a:Int} (ha:P a):∀ n∈[a],P n:=λn hn=>by simp only [List.mem_cons,List.not_mem_nil,or_false] at hn;subst hn; exact ha
theorem Zaf {P:Int->Prop} {a b c:Int} (ha:P a) (hb:P b) (hc:P c):∀ n∈[a,b,c],P n:=λn hn=>by
 simp only [List.mem_cons,List.not_mem_nil,or_false] at hn;rcases hn with rfl|rfl|rfl
 .exact ha
 .exact hb
 .exact hc
theorem ZQM {N:Nat} {c:DC} (h:COk N c) (x:Ask) (hx:I64 x.ID):COk N (ZHW c x):=by
 have h1:COk N (ZTb c x.ID 4):=⟨(h.w.end x.ID 4).clear x.ID,{h.f with qo:=ZTL h.f.qo,ao:=ZWA h.f.ao},h.o,h.i⟩
 exact h1.tell ⟨by decide,by decide⟩ (Zag hx)
theorem ZIX {N:Nat} {c:DC} (h:COk N c) (x:Ask) (hx:I64 x.ID) (hh:I64 x.Hit):COk N (ZAH c x):=by
 have h1:COk N (ZFm c x.Hit):=⟨h.w.kill x.Hit,{h.f with qo:=ZJY h.f.qo},h.o,h.i⟩
 unfold ZAH;split
 .exact ZQM h1 x hx
 .have h2:COk N {ZFm c x.Hit with d:={(ZFm c x.Hit).d with asks:=(ZGl c.d.asks x.ID).1}}:=⟨h1.w.back x.ID,{h1.f with ao:=ZW2 h.f.ao},h.o,h.i⟩
  exact h2.tell ⟨by decide,by decide⟩ (ZZ1 hx hh)
theorem ZI4 {N:Nat} {S:DS} (i:WOk N S) (hN:N<=9000) {a:Ask} (ha:a∈S.asks):I64 a.ID/\I64 a.Bond/\I64 a.Qty/\I64 a.Client:=by have:=i.ai a ha;have h4:=i.c4;have hbl:=i.bl4;exact ⟨Zr (by omega) (by omega),Zr (by omega) (by omega),Zr (by omega) (by omega),Zr (by omega) (by omega)⟩
theorem ZYh {N:Nat} {c:DC} (h:COk N c) (hN:N<=9000) {who id:Int} (hi:I64 id):COk N (ZGe c who id).1:=by
 unfold ZGe;split
 .rename_i e;obtain ⟨hm,_⟩:=ZD9 e;exact ZQM (h.id hi) _ (ZI4 h.w hN hm).1
 .exact h
theorem ZYU {N:Nat} {c:DC} (h:COk N c) {who id:Int} (hi:I64 id):COk N (ZID c who id).1:=by
 unfold ZID;cases hg:getQ c.d.quotes id with
 | none=>exact h
 | some q=>
   dsimp only;split
   .exact h
   split
   .exact h
   .have e:(ZIC c.d.quotes id who).1=c.d.quotes\/(ZIC c.d.quotes id who).1=killQ c.d.quotes id:=by
     unfold ZIC;rw [hg];dsimp only;split
     .exact .inl rfl
     split
     .exact .inl rfl
     .exact .inr rfl
    rcases e with e|e<;>rw [e]
    .exact h.id hi
    .exact ⟨h.w.kill id,{h.f with qo:=ZJY h.f.qo},h.o,hi⟩
theorem ZYd {N:Nat} {c:DC} (h:COk N c) {a:Ask} {q:Za} (ha:I64 a.ID) (hq:I64 q.ID):COk (N+1) (ZNp c a q).1:=by
 have h':=h.mono (Nat.le_succ N);unfold ZNp;split
 .exact h'
 split
 .exact h'
 split
 .exact h'
 split
 .exact h'
 .have h1:COk (N+1) {c with d:={c.d with asks:=(ZDX c.d.asks a.ID q.ID (ZEL c.d)).1,due:=c.d.due+1},id:=a.ID}:=⟨(h.w.look a.ID q.ID (ZEL c.d)).due1,{h.f with ao:=ZX1 h.f.ao hq},h.o,ha⟩
  exact h1.tell ⟨by decide,by decide⟩ (Zaf ha hq (ZDm _))
theorem ZYv {N:Nat} {c:DC} (h:COk N c) (hN:N≤9000) {who:Int} {m:Msg}:COk (N+1) (ZGg c who m).1:=by
 have h':=h.mono (Nat.le_succ N);unfold ZGg;split
 ·cases hg:getQ c.d.quotes m.F_0 with
  | none=>exact h'
  | some q=>
    dsimp only;split
    .exact h'
    .rename_i e;obtain ⟨hm,_⟩:=ZD9 (Classical.not_not.1 e);exact ZYd h (ZI4 h.w hN hm).1 (h.f.qo q (ZJu hg).1).1
 .split
  .exact h'
  .rename_i e;obtain ⟨hm,_⟩:=ZD9 (Classical.not_not.1 e);split
   .exact h'
   .rename_i eb;have hbm:=ZOI (s:=(ZB4 c.d who m.F_0).1.Side) (qs:=c.d.quotes.filter (ZPh (ZB4 c.d who m.F_0).1.ID c.d.now)) (by simpa using eb);exact ZYd h (ZI4 h.w hN hm).1 (h.f.qo _ (List.mem_filter.1 hbm).1).1
theorem ZUe {N:Nat} {c:DC} (h:COk N c) (hN:N≤9000) {who:Int} {m:Msg} (hw:0≤who∧who<8) (hm:ZE1 m):COk (N+1) (ZCR c who m).1:=by
 have h':=h.mono (Nat.le_succ N);have hc3:=h.w.c3;unfold ZCR;split
 .exact (ZYU h hm.2.1).mono (Nat.le_succ N)
 cases hg:getA c.d.asks m.F_0 with
 | none=>exact h'
 | some a=>
   dsimp only;obtain ⟨hm1,_⟩:=ZDp hg;have hai:=ZI4 h.w hN hm1;split
   .exact h'
   split
   .exact h'
   split
   .exact h'
   split
   .exact h'
   rename_i hp;split
   .exact h'
   split
   .exact h'
   rename_i hput;have hput:(ZIT c.d.quotes (Z5 c who a m)).2=0:=Classical.not_not.1 hput;have hqi:I64 (c.d.quote+1):=Zr (by omega) (by omega);have hpr:1<=m.F_1/\m.F_1<=1000000:=by
    have hb:=h.w.bonds _ (ZA6 (ZFc h.w hm1).1 h.w.bl).1;have hp:ZDx (ZAY c.d a.Bond) m.F_1=0:=Classical.not_not.1 hp;unfold ZDx at hp;split at hp
    .omega
    .cases hp
   have hput2:(ZIT c.d.quotes (Z5 c who a m)).1=c.d.quotes.map (ZGq (Z5 c who a m))++[Z5 c who a m]:=by
    unfold ZIT at hput ⊢;split
    .rename_i e; rw [if_pos e] at hput; cases hput
    .rfl
   have hold:∀ x:Za,(ZGq (Z5 c who a m) x).ID=x.ID/\(ZGq (Z5 c who a m) x).Price=x.Price/\(ZGq (Z5 c who a m) x).Dealer=x.Dealer/\(ZGq (Z5 c who a m) x).Expires=x.Expires:=λx=>by unfold ZGq;split<;>exact ⟨rfl,rfl,rfl,rfl⟩
   have hl1:=h.w.l1;have hl3:=h.w.l3;have h1:COk (N+1) (ZOJ c (Z5 c who a m)):=by
    refine ⟨{h'.w with
     qs:=?_,qi:=?_,c3:=?_,l1:=?_,l3:=?_},{h.f with qo:=?_},h.o,hqi⟩
    .show Srt Za.ID (ZIT c.d.quotes (Z5 c who a m)).1;rw [hput2];unfold Srt;rw [List.pairwise_append];refine ⟨?_,List.pairwise_singleton _ _,λx hx y hy=>?_⟩
     .rw [List.pairwise_map];exact List.Pairwise.imp (λ{x y} hxy=>by rw [(hold x).1,(hold y).1]; exact hxy) h.w.qs
     .obtain ⟨z,hz,rfl⟩:=List.mem_map.1 hx;simp only [List.mem_singleton] at hy;subst hy;rw [(hold z).1];have:=(h.w.qi z hz).1;show z.ID<c.d.quote+1;omega
    .intro q hq;have hq:q∈(ZIT c.d.quotes (Z5 c who a m)).1:=hq;rw [hput2] at hq;show q.ID<=c.d.quote+1/\_;rcases List.mem_append.1 hq with hq|hq
     .obtain ⟨z,hz,rfl⟩:=List.mem_map.1 hq;rw [(hold z).1,(hold z).2.1,(hold z).2.2.1];have:=h.w.qi z hz;omega
     .simp only [List.mem_singleton] at hq;subst hq;exact ⟨Int.le_refl _,hpr.1,hpr.2,hw⟩
    .show 0<=c.d.quote+1/\c.d.quote+1<=((N+1:Nat):Int);omega
    .show (ZIT c.d.quotes (Z5 c who a m)).1.length<=N+1;rw [hput2,List.length_append,List.length_map,List.length_singleton];omega
    .show c.d.due+1<=2*(N+1);omega
    .intro q hq;have hq:q∈(ZIT c.d.quotes (Z5 c who a m)).1:=hq;rw [hput2] at hq;rcases List.mem_append.1 hq with hq|hq
     .obtain ⟨z,hz,rfl⟩:=List.mem_map.1 hq;rw [(hold z).1,(hold z).2.2.2];exact h.f.qo z hz
     .simp only [List.mem_singleton] at hq;subst hq;exact ⟨hqi,ZDm _⟩
   refine h1.tell ⟨by decide,by decide⟩ λn hn=>?_;simp only [List.mem_cons,List.not_mem_nil,or_false] at hn;rcases hn with rfl|rfl|rfl|rfl
   .exact hai.1
   .exact hqi
   .exact hm.2.2.1
   .exact ZDm _
theorem ZRf {N:Nat} (a:Ask) (ha:∀ n∈[a.ID,a.Bond,a.Side,a.Qty,a.Ends],I64 n):∀ (is:List Nat) (c:DC),COk N c→COk N (is.foldl (ZBf a) c)
 | [],c,h=>h
 | i::is,c,h=>by
   rw [List.foldl_cons];refine ZRf a ha is _ ?_;unfold ZBf;split
   .exact h.tell ⟨by decide,by decide⟩ ha
   .exact h
theorem ZRC {N:Nat} {c:DC} (h:COk N c) (hN:N≤9000) {who:Int} {m:Msg} (hw:0≤who∧who<8) (hm:ZE1 m):COk (N+1) (ZBX c who m).1:=by
 have h':=h.mono (Nat.le_succ N);have hc4:=h.w.c4;unfold ZBX;split
 .exact h'
 rename_i hb;have hb:isBond c.d m.F_0=true:=by simpa using hb
 split
 .exact h'
 split
 .exact h'
 split
 .exact h'
 rename_i hqv;split
 .exact h'
 split
 .exact h'
 split
 .exact h'
 rename_i hadd;have hadd:(ZIg c.d.asks (Z9 c who m)).2=0:=Classical.not_not.1 hadd;have hadd2:(ZIg c.d.asks (Z9 c who m)).1=c.d.asks++[Z9 c who m]:=by
  unfold ZIg at hadd ⊢;split
  .rename_i e; rw [if_pos e] at hadd; cases hadd
  .rename_i e;rw [if_neg e] at hadd;split
   .rename_i e2; rw [if_pos e2] at hadd; cases hadd
   .rfl
 have hqt:1<=m.F_2/\m.F_2<=1000000:=by
  have hbb:=h.w.bonds _ (ZA6 hb h.w.bl).1;have hqv:ZTa (ZAY c.d m.F_0) m.F_2=0:=Classical.not_not.1 hqv;unfold ZTa at hqv;split at hqv
  .omega
  .cases hqv
 have hai:I64 (c.d.ask+1):=Zr (by omega) (by omega);have hbn:=ZBL.1 hb;have hl2:=h.w.l2;have hl3:=h.w.l3;have h1:COk (N+1) (ZQC c (Z9 c who m)):=by
  refine ⟨{h'.w with
   sa:=?_,ai:=?_,c4:=?_,l2:=?_,l3:=?_},{h.f with ao:=?_},h.o,hai⟩
  .show Srt Ask.ID (ZIg c.d.asks (Z9 c who m)).1;rw [hadd2];unfold Srt;rw [List.pairwise_append];refine ⟨h.w.sa,List.pairwise_singleton _ _,λx hx y hy=>?_⟩;simp only [List.mem_singleton] at hy;subst hy;have:=(h.w.ai x hx).1;show x.ID<c.d.ask+1;omega
  .intro q hq;have hq:q∈(ZIg c.d.asks (Z9 c who m)).1:=hq;rw [hadd2] at hq;show q.ID<=c.d.ask+1/\_;rcases List.mem_append.1 hq with hq|hq
   .have:=h.w.ai q hq;exact ⟨by omega,this.2⟩
   .simp only [List.mem_singleton] at hq;subst hq;exact ⟨Int.le_refl _,(by show 1<=c.d.ask+1; omega),hbn.1,hbn.2,hqt.1,hqt.2,hw⟩
  .show 0<=c.d.ask+1/\c.d.ask+1<=((N+1:Nat):Int);omega
  .show (ZIg c.d.asks (Z9 c who m)).1.length<=N+1;rw [hadd2,List.length_append,List.length_singleton];omega
  .show c.d.due+1<=2*(N+1);omega
  .intro q hq;have hq:q∈(ZIg c.d.asks (Z9 c who m)).1:=hq;rw [hadd2] at hq;rcases List.mem_append.1 hq with hq|hq
   .exact h.f.ao q hq
   .simp only [List.mem_singleton] at hq;subst hq;exact ⟨hm.2.2.1,ZDm _,ZF5⟩
 refine ZRf _ (λn hn=>?_) _ _ h1;simp only [List.mem_cons,List.not_mem_nil,or_false] at hn;rcases hn with rfl|rfl|rfl|rfl|rfl
 .exact hai
 .exact hm.2.1
 .exact hm.2.2.1
 .exact hm.2.2.2.1
 .exact ZDm _
theorem ZWx {N:Nat} {c:DC} (h:COk N c) (hN:N≤9000) {who:Int} {m:Msg}:COk (N+1) (ZDt c who m).1:=by
 have h':=h.mono (Nat.le_succ N);unfold ZDt;cases hg:getA c.d.asks m.F_0 with
 | none=>exact h'
 | some a=>
   dsimp only;have hm1:=(ZDp hg).1;have hai:=ZI4 h.w hN hm1;have haf:=h.f.ao a hm1;split
   .exact h'
   split
   .exact h'
   split
   .exact (ZIX (h.id hai.1) a hai.1 haf.2.2).mono (Nat.le_succ N)
   split
   .exact h'.id hai.1
   split
   .exact h'.id hai.1
   ·have hh:=ZNO h.w a;have hp:(ZCz c.d a).Price≤1000000∧0≤(ZCz c.d a).Price∧0≤(ZCz c.d a).Dealer∧(ZCz c.d a).Dealer<8:=by
     rcases hh with e|e
     .rw [e]; exact ⟨by decide,by decide,by decide,by decide⟩
     .have:=h.w.qi _ e; omega
    generalize ZCz c.d a=q at*;have h1:COk N (ZTb {c with d:={c.d with used:=(ZJx c.d.parties c.d.used q.Dealer q.Price a.Qty).1},id:=a.ID} a.ID 3):=
     ⟨((h.w.used (ZJx c.d.parties c.d.used q.Dealer q.Price a.Qty).1).end a.ID 3).clear a.ID,{h.f with qo:=ZTL h.f.qo,ao:=ZWA h.f.ao},h.o,hai.1⟩
    have h2:=h1.tell (to:=a.Client) (kind:=26) (ns:=[a.ID,q.Price]) ⟨by decide,by decide⟩ (ZZ1 hai.1 (Zr hp.2.1 hp.1));have hl4:=h.w.l4;have ht:ZCx (ZLZ c.d.trades (ZBI c.d a.Side a.Client q.Dealer ⟨0,a.Bond,0,0,q.Price,a.Qty,a.ID,0⟩)):=by
     unfold ZLZ ZBI ZCx;dsimp only;refine ⟨Zr (by omega) (by omega),hai.2.1,?_,?_,Zr hp.2.1 hp.1,hai.2.2.1,hai.1,h.w.now⟩
     .split
      .exact Zr (by omega) (by omega)
      .exact hai.2.2.2
     .split
      .exact hai.2.2.2
      .exact Zr (by omega) (by omega)
    refine ⟨h2.w.trade1 _,{h2.f with},λo ho=>?_,h2.i⟩;rcases List.mem_append.1 ho with ho|ho
    .exact h2.o o ho
    .exact ZNC ht o ho
theorem ZYm {N:Nat} {c:DC} (h:COk N c) (hN:N<=9000) {who:Int} {m:Msg} (hm:ZE1 m):COk (N+1) (ZAp c who m).1:=by
 have h':=h.mono (Nat.le_succ N);unfold ZAp;split
 .exact h'
 rename_i e;have hw:=ZM5 h.w (by simpa using e);split
 .exact ZVi h hN hw hm
 split
 .exact ZUe h hN hw hm
 split
 .exact ZYv h hN
 split
 .exact ZWx h hN
 split
 .exact (ZYh h hN hm.2.1).mono (Nat.le_succ N)
 split
 .exact ZRC h hN hw hm
 .exact (ZZM h hm.2.1).mono (Nat.le_succ N)
theorem ZRo {c:DC} {who n how:Int} {o:ZE} (h1:(ZGN c n o how).2.1.length<=64) (h2:(ZGN c n o how).2.2.1.length<=64):(Zt c who n o how).1.outs.length<=c.outs.length+321:=by
 unfold Zt;unfold ZGN at h1 h2;generalize doV (Zc c.d n) (ZDv c o) how=r at h1 h2;by_cases he:r.2.2.2.2≠0
 .rw [if_pos he]; show c.outs.length<=_; omega
 .rw [if_neg he];have hg:=(ZFp who r.2.2.1 (ZH7 c n r.1)).1;have hf:=(ZFj (who:=who) n o r.2.1 (r.2.2.1.foldl (ZB3 who) (ZH7 c n r.1),o.Left)).1;have e0:(ZH7 c n r.1).outs=c.outs:=rfl;rw [e0] at hg;dsimp only at hf;generalize r.2.1.foldl (ZBm who n o) (r.2.2.1.foldl (ZB3 who) (ZH7 c n r.1),o.Left)=st at*;dsimp only;split
  .show (st.1.outs++[_]).length<=_;rw [List.length_append,List.length_singleton]; omega
  .omega
theorem ZIW {N:Nat} {c:DC} (i:WOk N c.d) {who n how:Int} {o:ZE} (hn:0<=n/\n<c.d.books.length) (ho:0<=o.Owner/\o.Owner<8):(Zt c who n o how).1.outs.length<=c.outs.length+321:=by have hdo:=ZOX (o:=ZDv c o) (how:=how) (ZBS i hn) rfl ho;exact ZRo hdo.2.2.1 hdo.2.2.2.1
theorem ZZK {N:Nat} {S:DS} (w:WOk N S) (f:FOk S):COk N (ZEf S):=⟨w,f,(λo ho=>by cases ho),ZF5⟩
theorem ZO5 {N:Nat} {c:DC} (h:WOk N c.d) {who:Int} {m:Msg} (hw:0≤who∧who<8):(ZAM c who m).1.outs.length≤c.outs.length+321:=by
 unfold ZAM;split
 .unfold ZA4;split
  .show c.outs.length<=_; omega
  rename_i hb;have hb:isBond c.d m.F_0=true:=by simpa using hb
  split
  .show c.outs.length<=_; omega
  split
  .show c.outs.length<=_; omega
  have:=ZIW h (who:=who) (n:=m.F_0) (how:=m.F_4) (o:=Zs c who m) (ZBL.1 hb) hw;split
  .exact this
  .exact this
 cases hf:ZAi c.d m.F_0 with
 | none=>show c.outs.length<=_; omega
 | some n=>
   dsimp only;obtain ⟨hn,x,hx,hxm,hxi,hR⟩:=ZDg hf;have hnn:0<=((n:Nat):Int)/\((n:Nat):Int)<c.d.books.length:=⟨Int.natCast_nonneg _,by omega⟩
   have hbk:=ZBS h hnn;have hxb:x∈Zc c.d ((n:Nat):Int):=by rw [ZAc hnn]; exact hxm
   have hxo:=hbk.2.2.2 x hxb;rw [hR];dsimp only;split
   .show c.outs.length<=_; omega
   split
   .unfold ZDC;dsimp only;split
    .show c.outs.length<=_; omega
    split
    .show c.outs.length<=_; omega
    .exact ZIW (c:={c with id:=m.F_0,d:=ZA7 c.d (n:Int) (ZBC (Zc c.d (n:Int)) x.ID)}) (h.book (hbk.sub (Zy _ _))) (o:=ZGD x m.F_1 m.F_2) (by show 0<=_/\_<((List.set _ _ _).length:Int); rw [List.length_set]; exact hnn) hxo.2
   .show (c.outs++[_]).length<=_;rw [List.length_append,List.length_singleton]; omega
theorem ZJo {N:Nat} {c:DC} (h:WOk N c.d) {who:Int} {m:Msg}:(ZAp c who m).1.outs.length≤c.outs.length+321:=by
 have z:c.outs.length<=c.outs.length+321:=Nat.le_add_right _ _;have t1:∀ (x:Out),(c.outs++[x]).length<=c.outs.length+321:=λx=>by rw [List.length_append,List.length_singleton]; omega
 unfold ZAp;split
 .exact z
 rename_i e;have hw:=ZM5 h (by simpa using e);split
 .exact ZO5 h hw
 split
 ·unfold ZCR;split
  .unfold ZID;split
   .exact z
   .split
    .exact z
    .split<;>exact z
  .split
   .exact z
   .split
    .exact z
    split
    .exact z
    split
    .exact z
    split
    .exact z
    split
    .exact z
    split
    .exact z
    .exact t1 _
 split
 .unfold ZGg ZNp;(repeat' split)<;>first|exact z|exact t1 _
 split
 ·unfold ZDt ZAH;split
  .exact z
  .dsimp only;split
   .exact z
   split
   .exact z
   split
   .split
    .exact t1 _
    .exact t1 _
   split
   .exact z
   split
   .exact z
   .show ((c.outs++[_])++ZFf _).length<=_;simp [ZFf]
 split
 .unfold ZGe;split
  .exact t1 _
  .exact z
 split
 .unfold ZBX;split
  .exact z
  split
  .exact z
  split
  .exact z
  split
  .exact z
  split
  .exact z
  split
  .exact z
  split
  .exact z
  .have:=(ZGu (Z9 c who m) (List.range c.d.parties.length) (ZQC c (Z9 c who m))).2.2;rw [List.length_range] at this;have e0:(ZQC c (Z9 c who m)).outs=c.outs:=rfl;rw [e0] at this;have:=h.pl;dsimp only;omega
 .unfold ZGh;(repeat' split)<;>exact z
def Err (e:Int):Prop:=0<=e/\e<=20
theorem ZSu (b:Bond) (p:Int):Err (ZDx b p):=by unfold ZDx Err; split<;>(try split)<;>omega
theorem ZWN (b:Bond) (p:Int):Err (ZTa b p):=by unfold ZTa Err; split<;>(try split)<;>omega
theorem ZQL (b:Bond) (p q:Int):Err (ZHj b p q):=by
 unfold ZHj;split
 .unfold Err; omega
 split
 .exact ZSu b p
 .exact ZWN b q
theorem ZZU (b:Bond) (h p q:Int):Err (ZPv b h p q):=by
 unfold ZPv;split
 .exact ZQL b p q
 split
 .unfold Err; omega
 split
 .unfold Err; omega
 .exact ZWN b q
theorem ZXe (l:List ZE) (o:ZE) (how:Int):Err (ZBW l o how):=by unfold ZBW Err;(repeat' split)<;>omega
theorem ZaJ (l:List ZE) (o:ZE) (how:Int):Err (doV l o how).2.2.2.2:=by
 unfold doV;split
 .exact ZXe l o how
 .exact ⟨Int.le_refl 0,by show (0:Int)<=20; omega⟩
theorem ZZT (l:List ZE) (id left:Int):Err (ZDD l id left).2:=by unfold ZDD;(repeat' split)<;>(unfold Err; omega)
theorem ZZi (l:List ZE) (s p q:Int):Err (ZSm l s p q):=by unfold ZSm Err;(repeat' split)<;>omega
theorem ZZg (xs:List Ask) (a:Ask):Err (ZIg xs a).2:=by unfold ZIg; (repeat' split)<;>(unfold Err; omega)
theorem ZZt (xs:List Za) (q:Za):Err (ZIT xs q).2:=by unfold ZIT; (repeat' split)<;>(unfold Err; omega)
theorem ZXR (xs:List Za) (i d:Int):Err (ZIC xs i d).2:=by unfold ZIC; (repeat' split)<;>(unfold Err; omega)
theorem ZXi (xs:List Ask) (i q u:Int):Err (ZDX xs i q u).2:=by unfold ZDX; (repeat' split)<;>(unfold Err; omega)
theorem ZWX (ps:List ZAa) (w d:Int):Err (ZIx ps w d):=by unfold ZIx; (repeat' split)<;>(unfold Err; omega)
theorem ZV1 (ps:List ZAa) (us:List Int) (w p q:Int):Err (ZEh ps us w p q).2:=by unfold ZEh; (repeat' split)<;>(unfold Err; omega)
theorem ZaW (ps:List ZAa) (us:List Int) (w p q:Int):Err (ZJx ps us w p q).2:=by
 unfold ZJx;split
 .unfold Err; omega
 .exact ZV1 ps us w p q
theorem ZV4 (S:DS) (w i:Int):Err (ZB4 S w i).2:=by unfold ZB4; (repeat' split)<;>(unfold Err; omega)
theorem ZKi (S:DS) (a:Ask) (q:Za):Err (ZC2 S a q):=by
 unfold ZC2;split
 .unfold Err; omega
 .exact ZZi _ _ _ _
theorem ZaC (c:DC) (a:Ask) (q:Za):Err (ZNp c a q).2:=by unfold ZNp;(repeat' split)<;>first|exact ZKi _ _ _|exact ZV1 _ _ _ _ _|exact ZXi _ _ _ _|(unfold Err; dsimp only; omega)
theorem ZY9 (c:DC) (who:Int) (m:Msg):Err (ZAp c who m).2:=by
 have hm:∀ c who n o how,Err (Zt c who n o how).2:=λc who n o how=>by rw [(ZBp c who n o how).2.2]; exact ZaJ _ _ _
 unfold ZAp;split
 ·(unfold Err; dsimp only; omega)
 split
 .unfold ZAM ZA4 ZDC;(repeat' split)<;>first|exact hm _ _ _ _ _|exact ZZU _ _ _ _|exact ZQL _ _ _|exact ZZT _ _ _|(unfold Err; dsimp only; omega)
 split
 .unfold ZCR ZID;(repeat' split)<;>first|exact ZSu _ _|exact ZZt _ _|exact ZXR _ _ _|(unfold Err; dsimp only; omega)
 split
 .unfold ZGg;(repeat' split)<;>first|exact ZaC _ _ _|exact ZV4 _ _ _|(unfold Err; dsimp only; omega)
 split
 .unfold ZDt;(repeat' split)<;>first|exact ZKi _ _ _|exact ZaW _ _ _ _ _|(unfold Err; dsimp only; omega)
 split
 .unfold ZGe;split
  ·(unfold Err; dsimp only; omega)
  .exact ZV4 _ _ _
 split
 .unfold ZBX;(repeat' split)<;>first|exact ZWN _ _|exact ZWX _ _ _|exact ZZg _ _|(unfold Err; dsimp only; omega)
 .unfold ZGh;(repeat' split)<;>(unfold Err; dsimp only; omega)
theorem ZZJ {N:Nat} {S:DS} (w:WOk N S) (f:FOk S) (hN:N<=9000) {who seq:Int} {m:Msg} (hm:ZE1 m) (hs:I64 seq):WOk (N+1) (doD S who seq m).1/\FOk (doD S who seq m).1/\(∀ o∈(doD S who seq m).2,ZCE o)/\(doD S who seq m).2.length<=400:=by
 have hc:=ZYm (ZZK w f) hN (who:=who) hm;have hl:=ZJo (c:=ZEf S) w (who:=who) (m:=m);have he:I64 (ZAp (ZEf S) who m).2:=by have:=ZY9 (ZEf S) who m; exact ⟨by unfold Err at this; omega,by unfold Err at this; omega⟩
 unfold doD;generalize ZAp (ZEf S) who m=r at*;have h0:(ZEf S).outs.length=0:=rfl;rw [h0] at hl;split
 .exact ⟨hc.w,hc.f,(λo ho=>by simp only [List.mem_singleton] at ho; subst ho; exact ZD2 ⟨by decide,by decide⟩ (ZZ1 hs he)),by simp⟩
 .refine ⟨hc.w,hc.f,λo ho=>?_,by simp only [List.length_cons]; omega⟩;rcases List.mem_cons.1 ho with rfl|ho
  .exact ZD2 ⟨by decide,by decide⟩ (ZZ1 hs hc.i)
  .exact hc.o o ho
def ZB7 (x:LS) (bs:List Int):LS×List ZP×Bool:=
 (⟨(Zx (x.held++bs)).2.1,x.lost+(Zx (x.held++bs)).2.2,((Zx (x.held++bs)).1.foldl ZAv (x.s,x.out,[],false)).1,((Zx (x.held++bs)).1.foldl ZAv (x.s,x.out,[],false)).2.1⟩,
   ((Zx (x.held++bs)).1.foldl ZAv (x.s,x.out,[],false)).2.2.1,((Zx (x.held++bs)).1.foldl ZAv (x.s,x.out,[],false)).2.2.2)
inductive ZJQ (who:Int):VS->List ZP->VS->Prop
 | nil {S:VS}:ZJQ who S [] S
 | cons {S T U:VS} {f:ZP} {fs:List ZP}:ZRR ⟨(doD S.d who f.Seq (ZDZ f)).1,S.ls⟩ (doD S.d who f.Seq (ZDZ f)).2 T->ZJQ who T fs U->ZJQ who S (f::fs) U
def ZZw (f:ZP):Prop:=I64 f.Seq/\ZE1 (ZDZ f)
theorem ZZ6 {f:ZP} (h:wfF f):ZZw f:=by unfold wfF at h;unfold ZZw ZE1;simp only [ZDZ,fs,List.mem_cons,List.not_mem_nil,or_false,forall_eq_or_imp,forall_eq] at h ⊢;exact ⟨h.1,h.2⟩
structure HOk (A B:Nat) (k:Nat) (s0:SS) (st:SS×List (List Int)×List ZP×Bool):Prop where
 all:st.1.all=s0.all
 want:st.1.want<=s0.want+k
 beat:st.1.beat=s0.beat
 sent:st.1.sent<=s0.sent
 heard:st.1.heard<=s0.heard
 out:st.2.1.length<=256
 outs:ZDc st.2.1
 n:st.2.2.1.length<=k
 f:∀ f∈st.2.2.1,ZZw f
theorem ZUf (s:SS) (x:ZP) (h:(Zo s x).2.2.2.1=true):(Zo s x).2.2.1=ZDZ x:=by
 unfold Zo at h ⊢;split
 .rename_i h1;rw [if_pos h1] at h;unfold ZOQ at h;split at h<;>cases h
 ·rename_i h1;rw [if_neg h1] at h;split
  .rename_i h2; rw [if_pos h2] at h; cases h
  .rename_i h2;rw [if_neg h2] at h;split
   .rename_i h3;rw [if_pos h3] at h;unfold ZXY at h;(repeat' split at h)<;>cases h
   .rename_i h3;rw [if_neg h3] at h;unfold ZFv at h ⊢;(repeat' split at h)<;>first|(cases h; done)|skip
    all_goals simp_all
theorem ZZb {A B k:Nat} {s0:SS} {st:SS×List (List Int)×List ZP×Bool} {b:List Int} (h:HOk A B k s0 st) (hb:Zz b) (hwf:∀ f∈s0.all,wfF f) (hk:s0.want+k≤1000000):HOk A B (k+1) s0 (ZAv st b):=by
 have h1:=ZR2 st b;unfold ZAv at h1 ⊢;cases hr:ZEM b with
 | none=>exact {h with want:=by have:=h.want; dsimp only; omega,n:=by have:=h.n; dsimp only; omega}
 | some x=>
   rw [hr] at h1;dsimp only at h1 ⊢;have hx:=ZNa hb hr;have t:=ZMC st.1 x;have g:=ZCo (Zo st.1 x).2.1 ((Zo st.1 x).1,st.2.1,false);dsimp only at g;have hw:=h.want;have hs:=h.sent;have hh:=h.heard;have hn:=h.n;refine ⟨by dsimp only; rw [h1.1,h.all],by dsimp only; omega,by dsimp only; rw [g.1,t.1,h.beat],by dsimp only; rw [g.2.2.2.1]; omega,by dsimp only; rw [g.2.2.2.2.1]; omega,g.2.2.2.2.2.2 h.out,ZFT _ _ (ZRD (by rw [h.all]; exact hwf) (by omega)) h.outs,by dsimp only; omega,?_⟩;dsimp only;split
   .rename_i e;intro f hf;rcases List.mem_append.1 hf with hf|hf
    .exact h.f f hf
    .simp only [List.mem_singleton] at hf;subst hf;rw [ZUf st.1 x e];have:=ZZ6 hx;exact ⟨this.1,this.2⟩
   .exact h.f
theorem ZM3 {A B:Nat} {s0:SS}:∀ (bs:List (List Int)) {k:Nat} {st:SS×List (List Int)×List ZP×Bool},HOk A B k s0 st->(∀ b∈bs,Zz b)->(∀ f∈s0.all,wfF f)->s0.want+k+bs.length<=1000000->HOk A B (k+bs.length) s0 (bs.foldl ZAv st)
 | [],k,st,h,_,_,_=>h
 | b::bs,k,st,h,hb,hwf,hk=>by rw [List.length_cons] at hk;rw [List.foldl_cons,List.length_cons];have:=ZM3 bs (ZZb h (hb b (by simp)) hwf (by omega)) (λx hx=>hb x (by simp [hx])) hwf (by omega);rwa [show k+(bs.length+1)=k+1+bs.length by omega]
theorem ZRx {A B:Nat} {x:LS} {bs:List Int} (h:LOk A B x) (hb:Zz bs) (hB:B+bs.length<=900000):LOk A (B+bs.length) (ZB7 x bs).1/\(∀ f∈(ZB7 x bs).2.1,ZZw f)/\(ZB7 x bs).2.1.length<=B+1+bs.length:=by have hall:Zz (x.held++bs):=λb hb'=>(List.mem_append.1 hb').elim (h.held b) (hb b);have hfl:=ZJD hall;have hfb:=ZGF hall;rw [List.length_append] at hfl;have hhl:=h.hl;have hk:=ZM3 (A:=A) (B:=B) (s0:=x.s) (Zx (x.held++bs)).1 (k:=0) (st:=(x.s,x.out,[],false)) ⟨rfl,Nat.le_refl _,rfl,Nat.le_refl _,Nat.le_refl _,h.out,h.outs,Nat.le_refl _,λf hf=>by cases hf⟩ hfb.1 h.wf (by omega);rw [Nat.zero_add] at hk;have hhl:=h.hl;have hw:=hk.want;have hn:=hk.n;have hs:=hk.sent;have hh:=hk.heard;have h1:=h.sent;have h2:=h.heard;unfold ZB7;dsimp only;refine ⟨⟨hfb.2,by dsimp only; omega,by dsimp only; rw [hk.all]; exact h.wf,by dsimp only; rw [hk.all]; exact h.al,by dsimp only; rw [hk.beat]; exact h.beat,by dsimp only; omega,by dsimp only; omega,hk.out,hk.outs⟩,hk.f,by omega⟩
theorem ZXO {N:Nat} {S:DS} (i:WOk N S) (f:FOk S) (hN:N≤9000) (id:Int):I64 (ZLF ZPO (getA S.asks id)).1.ID∧I64 (ZLF ZPO (getA S.asks id)).1.Hit:=by
 cases h:getA S.asks id with
 | none=>exact ⟨ZF5,ZF5⟩
 | some a=>
   have hm:=(ZDp h).1;exact ⟨(ZI4 i hN hm).1,(f.ao a hm).2.2⟩
section
variable {k:DK} {S:DS} {b:Nat} {who:Int} {c:DC} {h:Hp} {l:List Hp} {N:Nat}
theorem ZGH (a:Zu k S h l) (i:WOk N S) (f:FOk S) (hN:N≤9000) {Q:Sl→Hp→Prop}
 (hq:∀ T s outs d h',Zu k T h' (d::l)->Own ZCJ d s outs->ZDy {S with now:=IntKind.i64.wrap (S.now+1)} T->WOk N T->FOk T->ZDh outs->(∀ o∈outs,ZCE o)->outs.length<=20000->Q s h'):
 ZA TP 50 [Value.pointer k.p] cSl h Q:=by
 refine c50 ?_;unfold F50;refine ZT rfl ?_;refine a.new λk1 h1 a1=>?_;obtain ⟨D,o1,w1⟩:=a1;obtain ⟨o2,o3⟩:=On.joined (cs:=[Go.Eng.ob k1 [Value.int .i64 0,Value.int .i64 0,Value.slice none 0 0] 191,Hp.emp]) (l:=D::l) ((o1.emp).pick [2,0,1] 3 (by decide) (by decide));have a2:Has k k1 0 (ZEf S) h1 l:=⟨_,⟨⟨none,0,0⟩,Hp.emp,o3,Own.nil _⟩,D,o2.swap,w1⟩
 dsimp only [ZR,DK.p];refine ZF (cd:=cI .i64) (x:=S.now) a2.ob (i:=4) rfl ?_;obtain ⟨C,wc,a2⟩:=a2;refine a2.setNow λh3 a3=>?_;have i3:WOk N {S with now:=IntKind.i64.wrap (S.now+1)}:={i with now:=ZDm _}
 have f3:FOk {S with now:=IntKind.i64.wrap (S.now+1)}:={f with bo:=f.bo}
 have a3:Zu k {S with now:=IntKind.i64.wrap (S.now+1)} h3 (C::l):=a3;generalize hS3:({S with now:=IntKind.i64.wrap (S.now+1)}:DS)=S3 at*;have hnow:S3.now=IntKind.i64.wrap (S.now+1):=by rw [<-hS3]
 refine ZF (cd:=cP) (x:=k.pd) a3.ob (i:=9) rfl ?_;refine ZF (cd:=cI .i64) (x:=S3.now) a3.ob (i:=4) rfl ?_;obtain ⟨cd,R,o4,w4,cl⟩:=a3.dues;have hd:=i3.due (by omega);have hd3:=i3.l3;refine ZUj o4 w4 hd λs5 xs c5 d5 h5 o5 w5 wd5 hxl=>?_;have a5:=cl h5 c5 _ S3.due (o5.pick [0,2,1] 3 (by decide) (by decide)) w5;have a5:Zu k S3 h5 (d5::C::l):=a5;have a5:Has k k1 0 ⟨S3,0,[]⟩ h5 (d5::l):=⟨C,wc,a5.perm (List.Perm.swap _ _ _)⟩
 have hlen:=wd5.1;refine Zb (λz h'=>∃ (j:Nat) (c:DC),z=(j:Int)/\j<=xs.length/\Has k k1 0 c h' (d5::l)/\ZDy S3 c.d/\WOk N c.d/\COk N c/\ZDh c.outs/\c.outs.length<=j) (λz=>xs.length-z.toNat)
  ⟨0,⟨S3,0,[]⟩,rfl,Nat.zero_le _,a5,ZDy.refl _,i3,⟨i3,f3,(λo ho=>by cases ho),ZF5⟩,(λo ho=>by cases ho),Nat.le_refl _⟩ ?_
 rintro J z h6 again ⟨j,c,rfl,hj,a6,g6,i6,k6,q6,l6⟩
 refine ZJ (λhlt=>?_) λhge=>?_
 ·have hj':j<xs.length:=by omega
  have a0:xs[j]?=some xs[j]:=List.getElem?_eq_getElem hj';refine ZL wd5.row (Int.natCast_nonneg j) (by omega) λp hp=>ZO wd5.row (a6.sub (by simp)) rfl hp (i:=j) a0 (by rfl) ?_;refine ZF (cd:=cP) (x:=k.pa) a6.ob (i:=8) rfl ?_;obtain ⟨C6,wc6,a6⟩:=a6;refine a6.getA i6 (by omega) λh7 a7=>?_;have a7:Has k k1 0 c h7 (d5::l):=⟨C6,wc6,a7⟩
  have z6:=ZXO i6 k6.f hN xs[j].ID;generalize ZLF ZPO (getA c.d.asks xs[j].ID)=z1 at*;rw [ZAQ (by omega)];refine ZN (λ_ h'=>∃ c:DC,Has k k1 0 c h' (d5::l)/\ZDy S3 c.d/\WOk N c.d/\COk N c/\ZDh c.outs/\c.outs.length<=j+1) ?_ λJ2 hJ2=>?_
  .rintro _ h' ⟨c',a',g',i',k',q',l'⟩;exact again _ _ ⟨j+1,c',rfl,by omega,a',g',i',k',q',l'⟩ (by omega)
  .refine ZD (λ_=>?_) λ_=>?_
   .refine ZF (cd:=cP) (x:=k.pq) a7.ob (i:=7) rfl ?_;obtain ⟨C7,wc7,a7⟩:=a7;refine a7.killQ i6 (by omega) λt h8 a8=>?_;exact hJ2 _ _ ⟨{c with d:={c.d with quotes:=killQ c.d.quotes xs[j].ID}},⟨C7,wc7,a8⟩,g6.trans (ZDy.quotes _ _),i6.kill _,⟨i6.kill _,{k6.f with qo:=ZJY k6.f.qo},k6.o,k6.i⟩,q6,by dsimp only; omega⟩
   .refine ZN (λt h'=>Has k k1 0 c h' (d5::l)) ?_ λJ4 hJ4=>ZD (λ_=>hJ4 _ _ a7) λ_=>hJ4 _ _ a7;rintro t h8 a8;refine ZD (λ_=>?_) λ_=>?_
    .have g:=ZJB (c:=c) z1.1 i6;exact ZHi (x:=z1.1) a8 i6 (by omega) (by omega) λh9 a9=>hJ2 _ _ ⟨_,a9,g6.trans g.1,g.2.1,ZIX k6 z1.1 z6.1 z6.2,g.2.2.1 q6,by rw [g.2.2.2]; omega⟩
    .refine ZN (λt h'=>Has k k1 0 c h' (d5::l)) ?_ λJ3 hJ3=>ZD (λ_=>hJ3 _ _ a8) λ_=>hJ3 _ _ a8;rintro t h9 a9;refine ZD (λ_=>?_) λ_=>hJ2 _ _ ⟨c,a9,g6,i6,k6,q6,by omega⟩;have g:=ZJ7 (c:=c) z1.1 i6;exact ZMr (x:=z1.1) a9 i6 (by omega) (by omega) λh10 a10=>hJ2 _ _ ⟨_,a10,g6.trans g.1,g.2.1,ZQM k6 z1.1 z6.1,g.2.2.1 q6,by rw [g.2.2.2]; omega⟩
 .obtain ⟨C6,⟨s,d,oc,wd⟩,a6⟩:=a6;have hC:=a6.sub (g:=C6) (by simp);have hob:(Go.Eng.ob k1 [Value.int .i64 0,Value.int .i64 c.id,sv s] 191).sub h6:=Hp.sub_trans (oc.mem (by simp)) hC;refine ZF (cd:=cSl) (x:=s) hob (i:=2) rfl ?_;obtain ⟨D6,o7,w7⟩:=a6;have o8:On h6 (C6::D6::l):=o7.pick [1,0] 3 (by decide) (by decide);have o9:On h6 (Go.Eng.ob k1 [Value.int .i64 0,Value.int .i64 c.id,sv s] 191::d::D6::l):=o8.split oc;exact hq c.d s c.outs d h6 ⟨D6,o9.pick [2,1] 3 (by decide) (by decide),w7⟩ wd g6 i6 k6.f q6 k6.o (by omega)
end
def ZPw (x:LS):Nat:=x.held.length+x.lost
def pot (ls:List LS):Nat:=(ls.map ZPw).sum
theorem ZRw (φ:LS→Nat):∀ (ls:List LS) (i:Nat) (x y:LS),ls[i]?=some x→((ls.set i y).map φ).sum+φ x=(ls.map φ).sum+φ y
 | [],i,x,y,h=>by simp at h
 | a::ls,0,x,y,h=>by
   simp only [List.getElem?_cons_zero,Option.some.injEq] at h;subst h;simp only [List.set_cons_zero,List.map_cons,List.sum_cons];omega
 | a::ls,i+1,x,y,h=>by simp only [List.getElem?_cons_succ] at h;have:=ZRw φ ls i x y h;simp only [List.set_cons_succ,List.map_cons,List.sum_cons];omega
theorem ZI5 {ls:List LS} {i:Nat} {x y:LS} (h:ls[i]?=some x):pot (ls.set i y)+ZPw x=pot ls+ZPw y:=ZRw ZPw ls i x y h
theorem ZNU {s:SS} {m:Msg} (h:(ZAm s m).1.up=true):s.up=true:=by unfold ZAm at h;split at h<;>exact h
theorem ZZQ {x:LS} {m:Msg} (h:(lsV x m).s.up=true):x.s.up=true:=by
 unfold lsV ZFq at h;dsimp only at h;split at h
 .exact ZNU ((ZCo [(ZAm x.s m).2.1] ((ZAm x.s m).1,x.out,false)).2.2.2.2.2.1 h)
 .exact ZNU h
def ZD6 (a b:List LS):Prop:=b.length=a.length/\pot b=pot a/\∀ (i:Nat) (y:LS),b[i]?=some y->y.s.up=true->∃ x,a[i]?=some x/\x.s.up=true
theorem ZD6.refl (a:List LS):ZD6 a a:=⟨rfl,rfl,λi y h hu=>⟨y,h,hu⟩⟩
theorem ZD6.trans {a b c:List LS} (h:ZD6 a b) (g:ZD6 b c):ZD6 a c:=⟨g.1.trans h.1,g.2.1.trans h.2.1,λi y hy hu=>by
 obtain ⟨x,hx,hxu⟩:=g.2.2 i y hy hu;exact h.2.2 i x hx hxu⟩
theorem ZLq (st:List LS×List Bool) (o:Out):ZD6 st.1 (ZBP st o).1:=by
 unfold ZBP;split
 .rename_i hn;have hlt:o.To.toNat<st.1.length:=by omega
  have hg:st.1[o.To.toNat]?=some st.1[o.To.toNat]:=List.getElem?_eq_getElem hlt;rw [hg];dsimp only;generalize st.1[o.To.toNat]=x at*;refine ⟨by rw [List.length_set],?_,λi y hy hu=>?_⟩
  .have:=ZI5 (y:=lsV x (ZJw o)) hg;have e:ZPw (lsV x (ZJw o))=ZPw x:=rfl;omega
  .by_cases hi:o.To.toNat=i
   .subst hi;rw [List.getElem?_set_self hlt] at hy;cases hy;exact ⟨x,hg,ZZQ hu⟩
   .rw [List.getElem?_set_ne hi] at hy;exact ⟨y,hy,hu⟩
 .exact ZD6.refl _
theorem ZGX:∀ (os:List Out) (st:List LS×List Bool),ZD6 st.1 (os.foldl ZBP st).1
 | [],st=>ZD6.refl _
 | o::os,st=>by rw [List.foldl_cons];exact (ZLq st o).trans (ZGX os (ZBP st o))
theorem ZM1 (ls:List LS) (os:List Out):ZD6 ls (ZA8 ls os).1:=ZGX os _
theorem ZLE {P:VS→Prop} (hs:∀ (S:VS) (os:List Out),P S→P ⟨S.d,(ZA8 S.ls os).1⟩) (hg:∀ (S:VS) (who:Int),P S→P ⟨(ZAW S.d who).1,S.ls⟩):∀ (ps:List (Bool×Nat)) (acc:VS×List Bool),P acc.1→P (ps.foldl ZAX acc).1
 | [],acc,h=>h
 | p::ps,acc,h=>by
   rw [List.foldl_cons];refine ZLE hs hg ps _ ?_;unfold ZAX;split
   .exact hs ⟨(ZAW acc.1.d (p.2:Int)).1,acc.1.ls⟩ _ (hg acc.1 _ h)
   .exact h
theorem ZSo {P:VS->Prop} (hs:∀ (S:VS) (os:List Out),P S->P ⟨S.d,(ZA8 S.ls os).1⟩) (hg:∀ (S:VS) (who:Int),P S->P ⟨(ZAW S.d who).1,S.ls⟩) {S T:VS} {dn:List Bool} (h:ZEr S dn T):P S->P T:=by
 induction h with
 | done _=>exact id
 | @step S S' dn e t ih=>exact λhp=>ih (ZLE hs hg dn.zipIdx (S,List.replicate S.ls.length false) hp)
theorem ZUs {P:VS->Prop} (hs:∀ (S:VS) (os:List Out),P S->P ⟨S.d,(ZA8 S.ls os).1⟩) (hg:∀ (S:VS) (who:Int),P S->P ⟨(ZAW S.d who).1,S.ls⟩) {S T:VS} {os:List Out} (h:ZRR S os T) (hp:P S):P T:=
 ZSo hs hg h (hs S os hp)
theorem ZDJ {S T:VS} {os:List Out} (h:ZRR S os T):ZD6 S.ls T.ls:=
 ZUs (P:=λX=>ZD6 S.ls X.ls) (λX os hp=>hp.trans (ZM1 X.ls os)) (λX who hp=>hp) h (ZD6.refl _)
def ZVu (a b:List (List ZE)):Prop:=b.length=a.length/\∀ (k:Nat) (y:List ZE),b[k]?=some y->∃ x,a[k]?=some x/\y.Sublist x
theorem ZHP {who:Int} {R:List ZE→List ZE→Prop}:∀ (bs:List (List ZE)) (acc:List (List ZE)×List Out),(∀ b∈bs,∀ os,R b (ZAA who (b,os)).1)→
 ∃ zs,(bs.foldl (ZAN who) acc).1=acc.1++zs/\zs.length=bs.length/\∀ (k:Nat) (z:List ZE),zs[k]?=some z->∃ b,bs[k]?=some b/\R b z
 | [],acc,_=>⟨[],by simp,rfl,λk z h=>by simp at h⟩
 | b::bs,acc,h=>by
   obtain ⟨zs,e,hl,hz⟩:=ZHP (R:=R) bs (ZAN who acc b) λx hx=>h x (by simp [hx]);refine ⟨(ZAA who (b,acc.2)).1::zs,?_,by simp [hl],λk z hk=>?_⟩
   .rw [List.foldl_cons,e];show (acc.1++[_])++zs=_;rw [List.append_assoc];rfl
   ·cases k with
    | zero=>
      simp only [List.getElem?_cons_zero,Option.some.injEq] at hk;exact ⟨b,rfl,hk▸h b (by simp) acc.2⟩
    | succ k=>
      simp only [List.getElem?_cons_succ] at hk;exact hz k z hk
theorem ZVc {who:Int} {S:DS} {R:List ZE->List ZE->Prop} (h:∀ b∈S.books,∀ os,R b (ZAA who (b,os)).1):
 (ZAW S who).1.books.length=S.books.length/\∀ (k:Nat) (z:List ZE),(ZAW S who).1.books[k]?=some z->∃ b,S.books[k]?=some b/\R b z:=by
 obtain ⟨zs,e,hl,hz⟩:=ZHP (R:=R) S.books ([],[]) h;have e2:(ZAW S who).1.books=zs:=by rw [(ZEw S who).1]; unfold ZBx; rw [e]; rfl
 rw [e2];exact ⟨hl,hz⟩
theorem ZHZ (S:DS) (who:Int):ZVu S.books (ZAW S who).1.books:=ZVc λb _ os=>(ZBi who (b,os)).1
theorem ZHc:∀ (qs:List Za) (S:DS),(qs.foldl goneQ S)={S with quotes:=(qs.foldl goneQ S).quotes}
 | [],S=>rfl
 | q::qs,S=>by rw [List.foldl_cons,ZHc qs (goneQ S q)];unfold goneQ;split<;>rfl
theorem ZKh (S:DS) (who:Int):(ZAW S who).1={S with books:=(ZAW S who).1.books,quotes:=(ZAW S who).1.quotes}:=by rw [(ZEw S who).1];exact ZHc _ {S with books:=(ZBx who S.books).1}
structure ZRS (S T:DS):Prop where
 books:ZVu S.books T.books
 rest:T={S with books:=T.books,quotes:=T.quotes}
theorem ZLJ (S:DS) (who:Int):ZRS S (ZAW S who).1:=⟨ZHZ S who,ZKh S who⟩
def ZNI (S:VS) (who:Nat) (x:LS) (bs:List Int) (T:VS):Prop:=
 ∃ (U:VS) (y:LS),ZJQ (who:Int) ⟨S.d,S.ls.set who (ZB7 x bs).1⟩ (ZB7 x bs).2.1 U/\U.ls[who]?=some y/\
  (if (ZB7 x bs).2.2=true\/((ZB7 x bs).1.s.up=true/\y.s.up=false) then ZRR ⟨(ZAW U.d (who:Int)).1,U.ls⟩ (ZAW U.d (who:Int)).2 T else T=U)
def ZE6 (x:LS):LS×Bool:=(⟨x.held,x.lost,(ZFa x.s x.out).1,(ZFa x.s x.out).2.1⟩,(ZFa x.s x.out).2.2)
inductive ZEA (S0:VS):Nat->VS->Prop
 | zero:ZEA S0 0 S0
 | stay {j:Nat} {S:VS} {x:LS}:ZEA S0 j S->S.ls[j]?=some x->(ZE6 x).2=false->ZEA S0 (j+1) ⟨S.d,S.ls.set j (ZE6 x).1⟩
 | down {j:Nat} {S T:VS} {x:LS}:ZEA S0 j S->S.ls[j]?=some x->(ZE6 x).2=true->ZRR ⟨(ZAW S.d (j:Int)).1,S.ls.set j (ZE6 x).1⟩ (ZAW S.d (j:Int)).2 T->ZEA S0 (j+1) T
def ZRr (S T:VS):Prop:=∃ (d:DS) (os:List Out) (U:VS),ZDy {S.d with now:=IntKind.i64.wrap (S.d.now+1)} d/\ZDh os/\ZRR ⟨d,S.ls⟩ os U/\ZEA U S.ls.length T
def ZOi (x:LS):LS×Bool:=({x with s:=(ZMF x.s).1},(ZMF x.s).2)
def ZZN (S:VS) (who:Nat) (x:LS) (T:VS):Prop:=
 if (ZOi x).2=true then ZRR ⟨(ZAW S.d (who:Int)).1,S.ls.set who (ZOi x).1⟩ (ZAW S.d (who:Int)).2 T else T=⟨S.d,S.ls.set who (ZOi x).1⟩
def DoR (S:VS) (kind who:Int) (bs:List Int) (T:VS) (r:Bool):Prop:=
 if kind=2 then r=true/\ZRr S T
 else if ¬(0<=who/\who<S.ls.length) then r=false/\T=S
 else if kind=1 then r=true/\∃ x,S.ls[who.toNat]?=some x/\ZNI S who.toNat x bs T
 else if kind=3 then r=true/\∃ x,S.ls[who.toNat]?=some x/\ZZN S who.toNat x T
 else r=false/\T=S
def ZMH (n t:Nat) (S:VS):Prop:=∃ N,VOk N (81000*N+1000000*n) (t+8*n) S/\N+pot S.ls<=t
structure ZCF (n:Int) (l:List ZE):Prop where
 ids:(l.map λx=>x.ID).Nodup
 ok:∀ x∈l,Zn x=true/\x.Owner<n
 unc:∀ x∈l,∀ y∈l,x.Side=1->y.Side=2->x.Price<y.Price
theorem ZCF.nil (n:Int):ZCF n []:=⟨by simp,by simp,by simp⟩
theorem ZCF.sub {n:Int} {l l':List ZE} (h:ZCF n l) (hs:l'.Sublist l):ZCF n l':=
 ⟨h.ids.sublist (hs.map _),λx hx=>h.ok x (hs.subset hx),λx hx y hy=>h.unc x (hs.subset hx) y (hs.subset hy)⟩
theorem ZMB {o:ZE} {left:Int} (h:Zn o=true) (h1:1<=left) (h2:left<=o.Left):Zn (ZAS o left)=true:=by unfold Zn at h ⊢;simp only [Bool.and_eq_true,decide_eq_true_eq] at h ⊢;obtain ⟨a1,a2,a3,a4,a5,a6,a7,a8⟩:=h;exact ⟨a1,a2,a3,a4,h1,(by show left<=_; omega),a7,a8⟩
theorem ZCF.less {n:Int} {l:List ZE} (h:ZCF n l) (id left:Int):ZCF n (ZDD l id left).1:=by
 rcases ZCB l id left with e|⟨i,o,ho,_,h1,h2,e⟩
 .rw [e]; exact h
 .rw [e];have hm:=List.mem_of_getElem? ho;have hlt:=(List.getElem?_eq_some_iff.1 ho).1;have e2:(l.set i (ZAS o left)).map (λx=>x.ID)=l.map λx=>x.ID:=by
   rw [List.map_set];have:(ZAS o left).ID=(l.map λx=>x.ID)[i]'(by simpa using hlt):=by rw [List.getElem_map,(List.getElem?_eq_some_iff.1 ho).2]; rfl
   rw [this,List.set_getElem_self]
  have same:∀ x∈l.set i (ZAS o left),∃ y∈l,x.Side=y.Side/\x.Price=y.Price:=λx hx=>by
   rcases List.mem_or_eq_of_mem_set hx with hx|hx
   .exact ⟨x,hx,rfl,rfl⟩
   .exact ⟨o,hm,by subst hx; rfl,by subst hx; rfl⟩
  refine ⟨by rw [e2]; exact h.ids,λx hx=>?_,λx hx y hy s1 s2=>?_⟩
  .rcases List.mem_or_eq_of_mem_set hx with hx|hx
   .exact h.ok x hx
   .subst hx;exact ⟨ZMB (h.ok o hm).1 h1 h2,(h.ok o hm).2⟩
  .obtain ⟨x',hx',a1,a2⟩:=same x hx;obtain ⟨y',hy',b1,b2⟩:=same y hy;rw [a2,b2];exact h.unc x' hx' y' hy' (a1▸s1) (b1▸s2)
theorem ZCF.add {n:Int} {l:List ZE} {o:ZE} (h:ZCF n l) (ho:o.Owner<n) (hc:∀ x∈l,(o.Side=1→x.Side=2→o.Price<x.Price)∧(o.Side=2→x.Side=1→x.Price<o.Price)):ZCF n (ZLu l o).1:=by
 unfold ZLu;split
 .exact h
 ·rename_i hn;split
  .exact h
  ·have hb:Zn o=true:=by
    cases e:Zn o with
    | true=>rfl
    | false=>exact absurd (.inl e) hn
   have ha:l.any (λx=>x.ID==o.ID||x.Seq==o.Seq)=false:=by
    cases e:l.any λx=>x.ID==o.ID||x.Seq==o.Seq with
    | false=>rfl
    | true=>exact absurd (.inr e) hn
   have ha:=List.any_eq_false.1 ha;refine ⟨?_,λx hx=>?_,λx hx y hy s1 s2=>?_⟩
   .rw [List.map_append,List.nodup_append];refine ⟨h.ids,by simp,λa ha1 b hb1=>?_⟩;simp only [List.map_cons,List.map_nil,List.mem_singleton] at hb1;subst hb1;obtain ⟨x,hx,rfl⟩:=List.mem_map.1 ha1;have:=ha x hx;simp only [Bool.or_eq_true,beq_iff_eq,not_or] at this;exact this.1
   .rcases List.mem_append.1 hx with hx|hx
    .exact h.ok x hx
    .simp only [List.mem_singleton] at hx;subst hx;exact ⟨hb,ho⟩
   .rcases List.mem_append.1 hx with g1|g1<;>rcases List.mem_append.1 hy with g2|g2
    .exact h.unc x g1 y g2 s1 s2
    .have e:y=o:=by simpa using g2
     rw [e] at s2 ⊢;exact (hc x g1).2 s2 s1
    .have e:x=o:=by simpa using g1
     rw [e] at s1 ⊢;exact (hc y g2).1 s1 s2
    .have e:x=o:=by simpa using g1
     have e2:y=o:=by simpa using g2
     rw [e] at s1;rw [e2] at s2;omega
theorem ZCF.meet {n:Int} {c:ZB5} (x:ZE) (h:ZCF n c.l):ZCF n (Zi c x).l:=by
 unfold Zi;split
 .exact h
 .split
  .exact h.sub (Zy _ _)
  .dsimp only;split
   .exact h.sub (Zy _ _)
   .exact h.less _ _
theorem ZRO {n:Int}:∀ (ms:List ZE) (c:ZB5),ZCF n c.l->ZCF n (ms.foldl Zi c).l
 | [],c,h=>h
 | x::ms,c,h=>ZRO ms (Zi c x) (h.meet x)
theorem ZPW {c:ZB5} (h:c.o.Left=0) (x:ZE):Zi c x=c:=by unfold Zi; rw [if_pos h]
theorem ZIb:∀ (ms:List ZE) (c:ZB5),c.o.Left=0->ms.foldl Zi c=c
 | [],c,_=>rfl
 | x::ms,c,h=>by rw [List.foldl_cons,ZPW h]; exact ZIb ms c h
theorem ZOv {c:ZB5} {x:ZE} (h:(Zi c x).o.Left≠0):(Zi c x).l=ZBC c.l x.ID:=by
 unfold Zi at h ⊢;split
 .rename_i e;rw [if_pos e] at h;exact absurd e h
 .rename_i e;rw [if_neg e] at h;split
  .rfl
  .rename_i e2;rw [if_neg e2] at h;dsimp only at h ⊢;split
   .rfl
   .rename_i e3;exfalso;have h:c.o.Left-min c.o.Left x.Left≠0:=h;omega
theorem ZIy:∀ (ms:List ZE) (c:ZB5),(ms.foldl Zi c).o.Left≠0->(ms.foldl Zi c).l=ms.foldl (λl x=>ZBC l x.ID) c.l
 | [],c,_=>rfl
 | x::ms,c,h=>by rw [List.foldl_cons] at h;have h1:(Zi c x).o.Left≠0:=λe=>h (by rw [ZIb ms _ e]; exact e);rw [List.foldl_cons,ZIy ms (Zi c x) h,ZOv h1,List.foldl_cons]
theorem ZNE:∀ {l:List ZE} {id:Int},(l.map fun x=>x.ID).Nodup→∀ y∈ZBC l id,y∈l∧y.ID≠id
 | [],_,_,y,hy=>by simp [ZBC] at hy
 | a::l,id,hn,y,hy=>by
   rw [List.map_cons,List.nodup_cons] at hn;unfold ZBC at hy;rw [List.eraseP_cons] at hy;cases e:(a.ID==id) with
   | true=>
     rw [e] at hy;simp only [cond_true] at hy;have e:a.ID=id:=by simpa using e
     exact ⟨List.mem_cons_of_mem _ hy,λe2=>hn.1 (List.mem_map.2 ⟨y,hy,by rw [e2,e]⟩)⟩
   | false=>
     rw [e] at hy;simp only [cond_false] at hy;rcases List.mem_cons.1 hy with rfl|hy
     .exact ⟨by simp,by simpa using e⟩
     .have:=ZNE hn.2 y hy;exact ⟨List.mem_cons_of_mem _ this.1,this.2⟩
theorem ZKx:∀ (ms l:List ZE),(l.map fun x=>x.ID).Nodup→∀ y∈ms.foldl (fun l x=>ZBC l x.ID) l,y∈l∧∀ x∈ms,y.ID≠x.ID
 | [],l,_,y,hy=>⟨hy,by simp⟩
 | m::ms,l,hn,y,hy=>by
   rw [List.foldl_cons] at hy;obtain ⟨h1,h2⟩:=ZKx ms (ZBC l m.ID) (hn.sublist ((Zy l m.ID).map _)) y hy;obtain ⟨h3,h4⟩:=ZNE hn y h1;refine ⟨h3,λx hx=>?_⟩;rcases List.mem_cons.1 hx with rfl|hx
   .exact h4
   .exact h2 x hx
theorem ZGk {s a b c:Int} (h1:ZAD s b a=false) (h2:ZAD s c b=false):ZAD s c a=false:=by unfold ZAD at h1 h2 ⊢;simp only [Bool.or_eq_false_iff,Bool.and_eq_false_iff,decide_eq_false_iff_not,beq_eq_false_iff_ne] at h1 h2 ⊢;omega
theorem ZP3 {s a b:Int} (h:ZAD s a b=true):ZAD s b a=false:=by unfold ZAD at h ⊢;simp only [Bool.or_eq_false_iff,Bool.and_eq_false_iff,decide_eq_false_iff_not,beq_eq_false_iff_ne,Bool.or_eq_true,Bool.and_eq_true,decide_eq_true_eq,beq_iff_eq] at h ⊢;omega
def ZOn (s:Int) (a b:ZE):Prop:=ZAD s b.Price a.Price=false
theorem ZIc {s:Int} {o:ZE} (ho:o.Side=s):∀ {l:List ZE},(∀ x∈l,x.Side=s)→l.Pairwise (ZOn s)→(ZSi o l).Pairwise (ZOn s)
 | [],_,_=>by simp [ZSi]
 | x::l,hs,hp=>by
   have hp':=List.pairwise_cons.1 hp;unfold ZSi;split
   ·rename_i e
    have hox:ZAD s x.Price o.Price=false:=by
     unfold ZNu at e;rw [ho] at e;cases h1:ZAD s o.Price x.Price with
     | true=>exact ZP3 h1
     | false=>
       cases h2:ZAD s x.Price o.Price with
       | false=>rfl
       | true=>
         rw [h1,h2] at e;simp at e
    refine List.pairwise_cons.2 ⟨λz hz=>?_,hp⟩;rcases List.mem_cons.1 hz with rfl|hz
    .exact hox
    .exact ZGk hox (hp'.1 z hz)
   ·rename_i e;refine List.pairwise_cons.2 ⟨fun z hz=>?_,ZIc ho (fun y hy=>hs y (by simp [hy])) hp'.2⟩;rcases List.mem_cons.1 ((ZHw o l).mem_iff.1 hz) with rfl|hz
    ·show ZAD s z.Price x.Price=false;cases h1:ZAD s z.Price x.Price with
     | false=>rfl
     | true=>
       exfalso;apply e;unfold ZNu;rw [ho,h1];simp
    .exact hp'.1 z hz
theorem ZGz {s:Int}:∀ {l:List ZE},(∀ x∈l,x.Side=s)->(ZJc l).Pairwise (ZOn s)
 | [],_=>List.Pairwise.nil
 | x::l,h=>ZIc (h x (by simp)) (λy hy=>h y (by simp [(ZBj l).mem_iff.1 hy])) (ZGz λy hy=>h y (by simp [hy]))
theorem ZL3 (l:List ZE) (s:Int):(ZBB l s).Pairwise (ZOn s):=ZGz λx hx=>by simpa using (List.mem_filter.1 hx).2
theorem ZSX {α:Type} {p:α→Bool} {R:α→α→Prop} (hR:∀ a b,R a b→p a=false→p b=false):∀ {l:List α},l.Pairwise R→∀ y∈l,y∈l.takeWhile p∨p y=false
 | [],_,y,hy=>by simp at hy
 | a::l,hp,y,hy=>by
   have hp:=List.pairwise_cons.1 hp;cases e:p a with
   | true=>
     rw [List.takeWhile_cons,e];simp only [if_true];rcases List.mem_cons.1 hy with rfl|hy
     .exact .inl (by simp)
     .exact (ZSX hR hp.2 y hy).imp (λh=>List.mem_cons_of_mem _ h) id
   | false=>
     rcases List.mem_cons.1 hy with rfl|hy
     .exact .inr e
     .exact .inr (hR a y (hp.1 y hy) e)
theorem ZIk (l:List ZE) (o:ZE) (how:Int):(ZAJ l o how).o.ID=o.ID∧(ZAJ l o how).o.Seq=o.Seq∧(ZAJ l o how).o.Owner=o.Owner∧(ZAJ l o how).o.Side=o.Side∧(ZAJ l o how).o.Price=o.Price:=by
 have key:∀ (ms:List ZE) (c:ZB5),(ms.foldl Zi c).o.ID=c.o.ID∧(ms.foldl Zi c).o.Seq=c.o.Seq∧(ms.foldl Zi c).o.Owner=c.o.Owner∧(ms.foldl Zi c).o.Side=c.o.Side∧(ms.foldl Zi c).o.Price=c.o.Price:=by
  intro ms;induction ms with
  | nil=>intro c; exact ⟨rfl,rfl,rfl,rfl,rfl⟩
  | cons x ms ih=>
    intro c;have h1:=ih (Zi c x);have h2:=ZGM c x;rw [List.foldl_cons];exact ⟨h1.1.trans h2.1,h1.2.1.trans h2.2.1,h1.2.2.1.trans h2.2.2.1,h1.2.2.2.1.trans h2.2.2.2.1,h1.2.2.2.2.trans h2.2.2.2.2⟩
 exact key _ _
theorem ZO3 {s:Int} (h:s=1\/s=2):ZBg s=3-s:=by unfold ZBg ZBZ;rcases h with rfl|rfl<;>rfl
theorem ZOt {n:Int} {l:List ZE} {o:ZE} {how:Int} (h:ZCF n l) (hh:how≠4) (hl:(ZAJ l o how).o.Left≠0):∀ x∈(ZAJ l o how).l,(o.Side=1→x.Side=2→o.Price<x.Price)∧(o.Side=2→x.Side=1→x.Price<o.Price):=by
 intro x hx;unfold ZAJ at hx hl;rw [ZIy _ _ hl] at hx;obtain ⟨h1,h2⟩:=ZKx _ _ h.ids x hx;have key:∀ s t,o.Side=s->x.Side=t->(s=1\/s=2)->t=3-s->ZAD s x.Price o.Price=true:=by
  intro s t hs ht h12 hst;have e:ZBg o.Side=t:=by rw [hs,ZO3 h12,hst]
  have hm:x∈ZBB l (ZBg o.Side):=ZA0.2 ⟨h1,by rw [e,ht]⟩;have hR:∀ a b:ZE,ZOn (ZBg o.Side) a b->ZFO how o a=false->ZFO how o b=false:=by intro a b hab ha;rw [e] at hab;unfold ZFO ZKz at ha ⊢;unfold ZOn at hab;rw [hs] at ha ⊢;simp only [Bool.or_eq_false_iff,beq_eq_false_iff_ne,Bool.and_eq_false_iff,Bool.not_eq_false'] at ha ⊢;refine ⟨ha.1,ha.2.imp id λha=>?_⟩;subst hst;unfold ZAD at hab ha ⊢;simp only [Bool.or_eq_false_iff,Bool.and_eq_false_iff,decide_eq_false_iff_not,beq_eq_false_iff_ne,Bool.or_eq_true,Bool.and_eq_true,decide_eq_true_eq,beq_iff_eq] at hab ha ⊢;omega
  rcases ZSX hR (ZL3 l (ZBg o.Side)) x hm with hx2|hx2
  .exact absurd rfl (h2 x hx2)
  .unfold ZFO ZKz at hx2;rw [hs] at hx2;have hsb:ZBZ s=true:=by unfold ZBZ;rcases h12 with rfl|rfl<;>rfl
   rw [hsb] at hx2;simp at hx2;exact hx2.2
 refine ⟨λa b=>?_,λa b=>?_⟩
 .have:=key 1 2 a b (.inl rfl) rfl;unfold ZAD at this;simp only [Bool.or_eq_true,Bool.and_eq_true,decide_eq_true_eq,beq_iff_eq] at this;omega
 .have:=key 2 1 a b (.inr rfl) rfl;unfold ZAD at this;simp only [Bool.or_eq_true,Bool.and_eq_true,decide_eq_true_eq,beq_iff_eq] at this;omega
theorem ZaO {n:Int} {l:List ZE} {o:ZE} {how:Int} (h:ZCF n l) (ho:o.Owner<n):ZCF n (doV l o how).1:=by
 unfold doV;split
 .exact h
 .dsimp only;have hc:ZCF n (ZAJ l o how).l:=ZRO _ _ h;split
  .rename_i hs;have hh:how≠4:=λe=>by have:=hs.1;rw [e] at this;exact absurd this (by decide)
   have hsame:=ZIk l o how;have hf:=ZOt (o:=o) (how:=how) h hh (by omega);refine hc.add (by rw [hsame.2.2.1]; exact ho) λx hx=>?_;rw [hsame.2.2.2.1,hsame.2.2.2.2];exact hf x hx
  .exact hc
def ZBa (S:DS):Prop:=∀ b∈S.books,ZCF S.parties.length b
theorem ZEg {S:DS} (h:ZBa S) (n:Int):ZCF S.parties.length (Zc S n):=by
 unfold Zc;cases e:S.books[n.toNat]? with
 | none=>exact ZCF.nil _
 | some b=>exact h b (List.mem_of_getElem? e)
theorem ZXg {S:DS} (h:ZBa S) {n:Int} {x:List ZE} (hx:ZCF S.parties.length x):ZBa (ZA7 S n x):=λb hb=>by
 rcases List.mem_or_eq_of_mem_set hb with hb|hb
 .exact h b hb
 .subst hb; exact hx
structure ZB2 (S T:DS):Prop where
 parties:T.parties=S.parties
 bonds:T.bonds.length=S.bonds.length
 books:T.books.length=S.books.length
 look:T.look=S.look
theorem ZB2.refl (S:DS):ZB2 S S:=⟨rfl,rfl,rfl,rfl⟩
theorem ZB2.trans {S T U:DS} (h:ZB2 S T) (g:ZB2 T U):ZB2 S U:=⟨g.parties.trans h.parties,g.bonds.trans h.bonds,g.books.trans h.books,g.look.trans h.look⟩
theorem ZB2.set (S:DS) (n:Int) (x:List ZE):ZB2 S (ZA7 S n x):=⟨rfl,rfl,by show (S.books.set _ _).length=_; rw [List.length_set],rfl⟩
theorem ZCn (c:DC) (who n:Int) (o:ZE) (how:Int):(Zt c who n o how).1.d.books=c.d.books.set n.toNat (ZGN c n o how).1/\ZB2 c.d (Zt c who n o how).1.d:=by have h:=(ZBp c who n o how).1;generalize Zt c who n o how=r at*;rw [h];exact ⟨rfl,rfl,rfl,by dsimp only; rw [List.length_set],rfl⟩
theorem ZI1 {c:DC} {who n how:Int} {o:ZE} (h:ZBa c.d) (ho:o.Owner<c.d.parties.length):ZBa (Zt c who n o how).1.d:=by
 obtain ⟨e,hs⟩:=ZCn c who n o how;intro b hb;rw [e] at hb;rw [hs.parties];rcases List.mem_or_eq_of_mem_set hb with hb|hb
 .exact h b hb
 .subst hb;exact ZaO (o:=ZDv c o) (ZEg h n) ho
theorem ZXa {c:DC} {who:Int} {m:Msg} (h:ZBa c.d) (hw:who<c.d.parties.length):ZBa (ZA4 c who m).1.d/\ZB2 c.d (ZA4 c who m).1.d:=by
 have hm:=ZI1 (c:=c) (who:=who) (n:=m.F_0) (how:=m.F_4) (o:=Zs c who m) h hw;have hb:=(ZCn c who m.F_0 (Zs c who m) m.F_4).2;unfold ZA4;split
 .exact ⟨h,ZB2.refl _⟩
 split
 .exact ⟨h,ZB2.refl _⟩
 split
 .exact ⟨h,ZB2.refl _⟩
 split
 .exact ⟨hm,hb.parties,hb.bonds,hb.books,hb.look⟩
 .exact ⟨hm,hb⟩
theorem ZU9 {c:DC} {who n price qty:Int} {o:ZE} (h:ZBa c.d) (hw:o.Owner<c.d.parties.length):ZBa (ZDC c who n o price qty).1.d/\ZB2 c.d (ZDC c who n o price qty).1.d:=by
 unfold ZDC;split
 .exact ⟨h,ZB2.refl _⟩
 split
 .exact ⟨ZXg h ((ZEg h n).less _ _),ZB2.set _ _ _⟩
 .have h1:ZBa (ZA7 c.d n (ZBC (Zc c.d n) o.ID)):=ZXg h ((ZEg h n).sub (Zy _ _));have hm:=ZI1 (c:={c with d:=ZA7 c.d n (ZBC (Zc c.d n) o.ID)}) (who:=who) (n:=n) (how:=0) (o:=ZGD o price qty) h1 hw;have hb:=(ZCn {c with d:=ZA7 c.d n (ZBC (Zc c.d n) o.ID)} who n (ZGD o price qty) 0).2;exact ⟨hm,(ZB2.set _ _ _).trans hb⟩
theorem ZVh {c:DC} {who:Int} {m:Msg} (h:ZBa c.d) (hw:who<c.d.parties.length):ZBa (ZAM c who m).1.d∧ZB2 c.d (ZAM c who m).1.d:=by
 unfold ZAM;split
 .exact ZXa h hw
 ·cases ZAi c.d m.F_0 with
  | none=>exact ⟨h,ZB2.refl _⟩
  | some n=>
    dsimp only;split
    .exact ⟨h,ZB2.refl _⟩
    .rename_i e;have e:=Classical.not_not.1 e;split
     .exact ZU9 (c:={c with id:=m.F_0}) h (by rw [e]; exact hw)
     .exact ⟨ZXg h ((ZEg h n).sub (Zy _ _)),ZB2.set _ _ _⟩
structure ZQA (c c':DC):Prop where
 books:c'.d.books=c.d.books
 shape:ZB2 c.d c'.d
theorem ZQA.u {c c':DC} (k:ZQA c c') (h:ZBa c.d):ZBa c'.d:=λb hb=>by rw [k.books] at hb;rw [k.shape.parties];exact h b hb
theorem ZUd (c:DC) (who:Int) (m:Msg):ZQA c (ZCR c who m).1:=by unfold ZCR ZID;(repeat' split)<;>exact ⟨rfl,rfl,rfl,rfl,rfl⟩
theorem ZaA (c:DC) (a:Ask) (q:Za):ZQA c (ZNp c a q).1:=by unfold ZNp;(repeat' split)<;>exact ⟨rfl,rfl,rfl,rfl,rfl⟩
theorem ZY8 (c:DC) (who:Int) (m:Msg):ZQA c (ZGg c who m).1:=by unfold ZGg;(repeat' split)<;>first|exact ⟨rfl,rfl,rfl,rfl,rfl⟩|exact ZaA c _ _
theorem ZPj (c:DC) (a:Ask):ZQA c (ZAH c a):=by unfold ZAH;split<;>exact ⟨rfl,rfl,rfl,rfl,rfl⟩
theorem ZX7 (c:DC) (who:Int) (m:Msg):ZQA c (ZDt c who m).1:=by
 unfold ZDt;have key:∀ (id:Int) (a:Ask),ZQA c (ZAH {c with id:=id} a):=λid a=>by have k:=ZPj {c with id:=id} a;exact ⟨k.books,k.shape.parties,k.shape.bonds,k.shape.books,k.shape.look⟩
 (repeat' split)<;>first|exact ⟨rfl,rfl,rfl,rfl,rfl⟩|exact key _ _
theorem ZZe (c:DC) (who id:Int):ZQA c (ZGe c who id).1:=by unfold ZGe;split<;>exact ⟨rfl,rfl,rfl,rfl,rfl⟩
theorem ZZX (c:DC) (n is:Int):ZQA c (ZGh c n is).1:=by unfold ZGh;(repeat' split)<;>first|exact ⟨rfl,rfl,rfl,rfl,rfl⟩|exact ⟨rfl,rfl,(by dsimp only; rw [List.length_set]),rfl,rfl⟩
theorem ZQR (c:DC) (who:Int) (m:Msg):ZQA c (ZBX c who m).1:=by
 unfold ZBX;(repeat' split)<;>first|exact ⟨rfl,rfl,rfl,rfl,rfl⟩|skip
 have h:=(ZGu (Z9 c who m) (List.range c.d.parties.length) (ZQC c (Z9 c who m))).1;exact ⟨by dsimp only; rw [h]; rfl,by dsimp only; rw [h]; exact ⟨rfl,rfl,rfl,rfl⟩⟩
theorem ZZj {c:DC} {who:Int} {m:Msg} (h:ZBa c.d):ZBa (ZAp c who m).1.d/\ZB2 c.d (ZAp c who m).1.d:=by
 have k:∀ {c':DC},ZQA c c'->ZBa c'.d/\ZB2 c.d c'.d:=λk=>⟨k.u h,k.shape⟩
 unfold ZAp;split
 .exact ⟨h,ZB2.refl _⟩
 .rename_i e;have hm:ZV3 c.d who m=true:=by simpa using e
  unfold ZV3 at hm;simp only [Bool.and_eq_true] at hm;have hw:=ZKq hm.2.2;split
  .exact ZVh h hw.2
  split
  .exact k (ZUd c who m)
  split
  .exact k (ZY8 c who m)
  split
  .exact k (ZX7 c who m)
  split
  .exact k (ZZe c who _)
  split
  .exact k (ZQR c who m)
  .exact k (ZZX c _ _)
theorem Zal {S:DS} {who seq:Int} {m:Msg} (h:ZBa S):ZBa (doD S who seq m).1/\ZB2 S (doD S who seq m).1:=by have:=ZZj (c:=ZEf S) (who:=who) (m:=m) h;unfold doD;split<;>exact this
theorem ZUX {S T:DS} (h:ZBa S) (q:ZRS S T):ZBa T/\ZB2 S T:=by have e:=q.rest;have hs:=q.books;generalize T.books=bs at*;generalize T.quotes=qs at*;subst e;refine ⟨λb hb=>?_,rfl,rfl,hs.1,rfl⟩;obtain ⟨k,hk⟩:=List.getElem?_of_mem hb;obtain ⟨x,hx,hsub⟩:=hs.2 k b hk;exact (h x (List.mem_of_getElem? hx)).sub hsub
def ZAP (x:Int) (l:List ZE):Int:=(l.map λo=>if o.ID=x then o.Left else 0).sum
theorem ZFS (x:Int):ZAP x []=0:=rfl
theorem Z8 (x:Int) (o:ZE) (l:List ZE):ZAP x (o::l)=(if o.ID=x then o.Left else 0)+ZAP x l:=by unfold ZAP; rw [List.map_cons,List.sum_cons]
theorem ZEN (x:Int):∀ (a b:List ZE),ZAP x (a++b)=ZAP x a+ZAP x b
 | [],b=>by rw [List.nil_append,ZFS]; omega
 | o::a,b=>by rw [List.cons_append,Z8,Z8,ZEN x a b]; omega
theorem ZEV {x:Int}:∀ {l:List ZE} {y:ZE},(l.map fun o=>o.ID).Nodup→y∈l→ZAP x (ZBC l y.ID)+(if y.ID=x then y.Left else 0)=ZAP x l
 | [],y,_,hy=>by cases hy
 | a::l,y,hn,hy=>by
   rw [List.map_cons,List.nodup_cons] at hn;unfold ZBC;rw [List.eraseP_cons,Z8];rcases List.mem_cons.1 hy with rfl|hy
   .rw [show (y.ID==y.ID)=true by simp];simp only [cond_true];omega
   .have hne:a.ID≠y.ID:=λe=>hn.1 (List.mem_map.2 ⟨y,hy,e.symm⟩);rw [show (a.ID==y.ID)=false by simpa using hne];simp only [cond_false];have:=ZEV (x:=x) hn.2 hy;unfold ZBC at this;rw [Z8];omega
theorem ZLS {x:Int}:∀ {l:List ZE} {i:Nat} {o:ZE} (z:ZE),l[i]?=some o→ZAP x (l.set i z)+(if o.ID=x then o.Left else 0)=ZAP x l+(if z.ID=x then z.Left else 0)
 | [],i,o,z,h=>by simp at h
 | a::l,0,o,z,h=>by
   simp only [List.getElem?_cons_zero,Option.some.injEq] at h;subst h;simp only [List.set_cons_zero,Z8];omega
 | a::l,i+1,o,z,h=>by simp only [List.getElem?_cons_succ] at h;have:=ZLS (x:=x) z h;simp only [List.set_cons_succ,Z8];omega
theorem ZW6 {l:List ZE} {y:ZE} (hn:(l.map fun o=>o.ID).Nodup) (hy:y∈l):∃ i:Nat,(l.findIdx? fun o=>o.ID==y.ID)=some i∧l[i]?=some y:=by
 cases h:l.findIdx? λo=>o.ID==y.ID with
 | none=>
   have:=List.findIdx?_eq_none_iff.1 h y hy;simp at this
 | some i=>
   obtain ⟨o,ho,_,he,_⟩:=ZAk h;refine ⟨i,rfl,?_⟩;have he:o.ID=y.ID:=by simpa using he
   have hom:=List.mem_of_getElem? ho
   have key:∀ {l:List ZE},(l.map fun o=>o.ID).Nodup→o∈l→y∈l→o=y:=by
    intro l;induction l with
    | nil=>intro _ h; cases h
    | cons a l ih=>
      intro hn h1 h2;rw [List.map_cons,List.nodup_cons] at hn;rcases List.mem_cons.1 h1 with g1|g1<;>rcases List.mem_cons.1 h2 with g2|g2
      .rw [g1,g2]
      .exact absurd (List.mem_map.2 ⟨y,g2,by rw [<-he,g1]⟩) hn.1
      .exact absurd (List.mem_map.2 ⟨o,g1,by rw [he,g2]⟩) hn.1
      .exact ih hn.2 g1 g2
   rw [ho,key hn hom hy]
theorem ZXr {l:List ZE} {y:ZE} {left:Int} (hn:(l.map λo=>o.ID).Nodup) (hy:y∈l) (h1:1<=left) (h2:left<=y.Left):∃ i:Nat,l[i]?=some y/\(ZDD l y.ID left).1=l.set i (ZAS y left):=by obtain ⟨i,hi,hg⟩:=ZW6 hn hy;refine ⟨i,hg,?_⟩;unfold ZDD;rw [hi];dsimp only;rw [hg];dsimp only;rw [if_neg (by omega)]
theorem ZPJ {x:Int} {l:List ZE} {y:ZE} {left:Int} (hn:(l.map λo=>o.ID).Nodup) (hy:y∈l) (h1:1<=left) (h2:left<=y.Left):ZAP x (ZDD l y.ID left).1+(if y.ID=x then y.Left-left else 0)=ZAP x l:=by
 obtain ⟨i,hg,e⟩:=ZXr hn hy h1 h2;rw [e];have:=ZLS (x:=x) (ZAS y left) hg;have e1:(ZAS y left).ID=y.ID:=rfl;have e2:(ZAS y left).Left=left:=rfl;rw [e1,e2] at this;split<;>rename_i hx
 .rw [if_pos hx,if_pos hx] at this; omega
 .rw [if_neg hx,if_neg hx] at this; omega
def ZIY (x id:Int) (f:ZH5):Int:=(if f.Maker=x then f.Qty else 0)+(if id=x then f.Qty else 0)
def ZKX (x:Int) (g:ZOs):Int:=if g.ID=x then g.Left else 0
def inC (x:Int) (c:ZB5):Int:=ZAP x c.l+(if c.o.ID=x then c.o.Left else 0)+(c.fills.map (ZIY x c.o.ID)).sum+(c.gone.map (ZKX x)).sum
theorem ZSn {c:ZB5} (x:ZE) (h:(c.l.map fun o=>o.ID).Nodup):((Zi c x).l.map fun o=>o.ID).Nodup:=by
 unfold Zi;split
 .exact h
 ·split
  .exact h.sublist ((Zy _ _).map _)
  ·dsimp only;split
   .exact h.sublist ((Zy _ _).map _)
   ·rcases ZCB c.l x.ID (x.Left-min c.o.Left x.Left) with e|⟨i,o,ho,_,h1,h2,e⟩
    .rw [e]; exact h
    .rw [e];have e2:(c.l.set i (ZAS o (x.Left-min c.o.Left x.Left))).map (λx=>x.ID)=c.l.map λx=>x.ID:=by
      rw [List.map_set];have hlt:=(List.getElem?_eq_some_iff.1 ho).1;have:(ZAS o (x.Left-min c.o.Left x.Left)).ID=(c.l.map λx=>x.ID)[i]'(by simpa using hlt):=by rw [List.getElem_map,(List.getElem?_eq_some_iff.1 ho).2]; rfl
      rw [this,List.set_getElem_self]
     rw [e2]; exact h
theorem ZPL {c:ZB5} {m y:ZE} (hy:y∈c.l) (hne:y.ID≠m.ID):y∈(Zi c m).l:=by
 have hd:y∈ZBC c.l m.ID:=(List.mem_eraseP_of_neg (by simpa using hne)).2 hy;unfold Zi;split
 .exact hy
 ·split
  .exact hd
  ·dsimp only;split
   .exact hd
   .rcases ZCB c.l m.ID (m.Left-min c.o.Left m.Left) with e|⟨i,o,ho,hid,_,_,e⟩
    .rw [e]; exact hy
    .rw [e];obtain ⟨j,hj⟩:=List.getElem?_of_mem hy;have hij:i≠j:=by rintro rfl;rw [ho] at hj;cases hj;exact hne hid
     exact List.mem_of_getElem? (i:=j) (by rw [List.getElem?_set_ne hij]; exact hj)
theorem ZT3 {x:Int} {c:ZB5} {m:ZE} (hn:(c.l.map fun o=>o.ID).Nodup) (hm:m∈c.l) (h1:1≤m.Left) (h0:0≤c.o.Left):inC x (Zi c m)=inC x c:=by
 have hd:=ZEV (x:=x) hn hm;unfold Zi;split
 .rfl
 .rename_i hl;split
  .unfold inC;dsimp only;rw [List.map_append,List.sum_append];simp only [List.map_cons,List.map_nil,List.sum_cons,List.sum_nil,ZKX];omega
  .unfold inC;dsimp only;rw [List.map_append,List.sum_append];simp only [List.map_cons,List.map_nil,List.sum_cons,List.sum_nil];have hid:(ZAS c.o (c.o.Left-min c.o.Left m.Left)).ID=c.o.ID:=rfl;have hle:(ZAS c.o (c.o.Left-min c.o.Left m.Left)).Left=c.o.Left-min c.o.Left m.Left:=rfl;have hf:ZIY x c.o.ID (ZEt c.o m (min c.o.Left m.Left))=(if m.ID=x then min c.o.Left m.Left else 0)+(if c.o.ID=x then min c.o.Left m.Left else 0):=rfl;rw [hid,hle,hf];generalize hn2:min c.o.Left m.Left=n;have hn3:n<=c.o.Left/\n<=m.Left/\(n=c.o.Left\/n=m.Left):=by omega
   split
   .rename_i e;subst e;split<;>split<;>(try split at hd)<;>omega
   .rename_i e;have hs:=ZPJ (x:=x) (left:=m.Left-n) hn hm (by omega) (by omega);split<;>split<;>(try split at hs)<;>omega
theorem ZOa {x:Int}:∀ (ms:List ZE) (c:ZB5),(c.l.map λo=>o.ID).Nodup->(ms.map λo=>o.ID).Nodup->(∀ m∈ms,m∈c.l/\1<=m.Left/\m.Left<=1000000)->0<=c.o.Left->c.o.Left<=1000000->inC x (ms.foldl Zi c)=inC x c
 | [],c,_,_,_,_,_=>rfl
 | m::ms,c,hn,hm,hms,h0,h6=>by rw [List.map_cons,List.nodup_cons] at hm;have hmm:=hms m (by simp);have hl:=ZER (c:=c) (x:=m) ⟨h0,h6⟩ (by omega);rw [List.foldl_cons,ZOa ms (Zi c m) (ZSn m hn) hm.2 (λy hy=>?_) hl.1 hl.2,ZT3 hn hmm.1 hmm.2.1 h0];have hy2:=hms y (by simp [hy]);refine ⟨ZPL hy2.1 λe=>hm.1 (List.mem_map.2 ⟨y,hy,e⟩),hy2.2⟩
theorem ZOk {l:List ZE} {o:ZE} {how:Int} (hn:(l.map λx=>x.ID).Nodup):((ZBu l o how).map λx=>x.ID).Nodup:=by
 unfold ZBu;have h1:((l.filter λx=>x.Side==ZBg o.Side).map λx=>x.ID).Nodup:=hn.sublist (List.filter_sublist.map _);have h2:((ZBB l (ZBg o.Side)).map λx=>x.ID).Nodup:=by unfold ZBB;exact (((ZBj _).map _).nodup_iff).2 h1
 exact h2.sublist ((List.takeWhile_sublist _).map _)
theorem ZPu {c:ZB5} (m:ZE):(∀ y∈(Zi c m).l,∃ z∈c.l,z.ID=y.ID∧z.Seq=y.Seq)∧(Zi c m).l.length≤c.l.length:=by
 have h0:(∀ y∈c.l,∃ z∈c.l,z.ID=y.ID/\z.Seq=y.Seq)/\c.l.length<=c.l.length:=⟨λy hy=>⟨y,hy,rfl,rfl⟩,Nat.le_refl _⟩
 have hd:(∀ y∈ZBC c.l m.ID,∃ z∈c.l,z.ID=y.ID/\z.Seq=y.Seq)/\(ZBC c.l m.ID).length<=c.l.length:=⟨λy hy=>⟨y,(Zy _ _).subset hy,rfl,rfl⟩,(Zy _ _).length_le⟩
 unfold Zi;split
 .exact h0
 ·split
  .exact hd
  ·dsimp only;split
   .exact hd
   .rcases ZCB c.l m.ID (m.Left-min c.o.Left m.Left) with e|⟨i,o,ho,_,_,_,e⟩
    .rw [e]; exact h0
    .rw [e];refine ⟨λy hy=>?_,by rw [List.length_set]; exact Nat.le_refl _⟩;rcases List.mem_or_eq_of_mem_set hy with hy|hy
     .exact ⟨y,hy,rfl,rfl⟩
     .subst hy;exact ⟨o,List.mem_of_getElem? ho,rfl,rfl⟩
theorem ZIP:∀ (ms:List ZE) (c:ZB5),(∀ y∈(ms.foldl Zi c).l,∃ z∈c.l,z.ID=y.ID/\z.Seq=y.Seq)/\(ms.foldl Zi c).l.length<=c.l.length
 | [],c=>⟨λy hy=>⟨y,hy,rfl,rfl⟩,Nat.le_refl _⟩
 | m::ms,c=>by have h1:=ZPu (c:=c) m;have h2:=ZIP ms (Zi c m);rw [List.foldl_cons];refine ⟨λy hy=>?_,Nat.le_trans h2.2 h1.2⟩;obtain ⟨z,hz,e1,e2⟩:=h2.1 y hy;obtain ⟨w,hw,e3,e4⟩:=h1.1 z hz;exact ⟨w,hw,e3.trans e1,e4.trans e2⟩
theorem ZS2 {n:Int} {l:List ZE} {o:ZE} {how:Int} (h:ZCF n l) (hw:ZBW l o how=0):(∀ y∈l,y.ID≠o.ID∧y.Seq≠o.Seq)∧(ZC4 how=true→l.length<64∧Zn o=true):=by
 unfold ZBW at hw;split at hw
 .cases hw
 ·rename_i hn;have hn:ZC6 l o how=true:=by cases hb:ZC6 l o how with|true=>rfl|false=>exact absurd hb hn
  unfold ZC6 at hn;split at hn
  .cases hn
  split at hn
  .cases hn
  split at hn
  .cases hn
  rename_i hany;refine ⟨λy hy=>?_,λhst=>?_⟩
  .have hany:(l.any λx=>ZBZ x.Side&&(x.ID==o.ID||x.Seq==o.Seq))=false:=by simpa using hany
   have hy2:=List.any_eq_false.1 hany y hy;have hb:=(h.ok y hy).1;unfold Zn at hb;simp only [Bool.and_eq_true] at hb;rw [hb.2.2.2.2.2.2.2] at hy2;simpa using hy2
  ·refine ⟨?_,?_⟩
   .split at hw
    .cases hw
    .rename_i h64;by_cases hl:64<=l.length
     .exact absurd ⟨hst,hl⟩ h64
     .omega
   .have h4:how≠4:=by rintro rfl;exact absurd hst (by decide)
    rw [if_neg h4] at hn;exact hn
theorem ZOu {l:List ZE} {o:ZE} {how:Int} (hs:ZFe l) (ho:0<=o.Left/\o.Left<=1000000):0<=(ZAJ l o how).o.Left/\(ZAJ l o how).o.Left<=1000000:=(ZRI (P:=λ_=>True) (how:=how) (λ_ _=>trivial) hs ho).2.2.2
theorem ZKw {a b:ZE} (h:Zn a=true) (e:b.ID=a.ID/\b.Seq=a.Seq/\b.Owner=a.Owner/\b.Side=a.Side/\b.Price=a.Price) (h1:1<=b.Left) (h2:b.Left<=1000000):Zn b=true:=by obtain ⟨e1,e2,e3,e4,e5⟩:=e;unfold Zn at h ⊢;rw [e1,e2,e3,e4,e5];simp only [Bool.and_eq_true,decide_eq_true_eq] at h ⊢;obtain ⟨a1,a2,a3,a4,a5,a6,a7,a8⟩:=h;exact ⟨a1,a2,a3,a4,h1,h2,a7,a8⟩
theorem ZY2 {l:List ZE} {o:ZE} (h:Zn o=true) (hl:l.length<64) (hn:∀ y∈l,y.ID≠o.ID/\y.Seq≠o.Seq):ZLu l o=(l++[o],0):=by
 have ha:(l.any λx=>x.ID==o.ID||x.Seq==o.Seq)=false:=List.any_eq_false.2 λy hy=>by have:=hn y hy;simp [this.1,this.2]
 unfold ZLu;rw [if_neg (by rw [h,ha]; simp),if_neg (by omega)]
theorem ZZS {x n:Int} {l:List ZE} {o:ZE} {how:Int} (h:ZCF n l) (hs:ZFe l) (hw:ZBW l o how=0):
 ZAP x (doV l o how).1+((doV l o how).2.1.map (ZIY x o.ID)).sum+((doV l o how).2.2.1.map (ZKX x)).sum+(if o.ID=x/\¬ZC4 how=true then (doV l o how).2.2.2.1 else 0)=ZAP x l+(if o.ID=x then o.Left else 0):=by
 have hl:=ZFw hw;have hin:=ZOa (x:=x) (ZBu l o how) ⟨l,o,[],[]⟩ h.ids (ZOk h.ids) (λm hm=>by
  have hm:=ZCD hm;exact ⟨hm,(hs m hm).1,(hs m hm).2.1⟩) (by dsimp only; omega) hl.2
 have hsame:=ZIk l o how;have hci:inC x (ZAJ l o how)=ZAP x l+(if o.ID=x then o.Left else 0):=by unfold ZAJ;rw [hin];unfold inC;simp
 unfold inC at hci;rw [hsame.1] at hci;have hnew:=ZS2 h hw;have hfrom:(∀ y∈(ZAJ l o how).l,∃ z∈l,z.ID=y.ID/\z.Seq=y.Seq)/\(ZAJ l o how).l.length<=l.length:=ZIP (ZBu l o how) ⟨l,o,[],[]⟩;have hleft:=ZOu (how:=how) hs (o:=o) ⟨by omega,hl.2⟩;have hg:∀ y∈(ZAJ l o how).l,y.ID≠(ZAJ l o how).o.ID/\y.Seq≠(ZAJ l o how).o.Seq:=λy hy=>by obtain ⟨z,hz,e1,e2⟩:=hfrom.1 y hy;rw [hsame.1,hsame.2.1,<-e1,<-e2];exact hnew.1 z hz
 unfold doV;rw [if_neg (by rw [hw]; simp)];dsimp only;by_cases hst:ZC4 how=true
 .by_cases hp:0<(ZAJ l o how).o.Left
  .obtain ⟨h64,hio⟩:=hnew.2 hst;rw [if_pos ⟨hst,hp⟩,if_neg (by rw [hst]; simp),ZY2 (ZKw hio hsame (by omega) hleft.2) (by omega) hg];dsimp only;rw [ZEN,Z8,ZFS,hsame.1];omega
  .rw [if_neg (λe=>hp e.2),if_neg (by rw [hst]; simp)];have h0:(ZAJ l o how).o.Left=0:=by omega
   rw [h0] at hci;simp only [ite_self] at hci;omega
 .rw [if_neg (λe=>hst e.1)];by_cases hx:o.ID=x
  .rw [if_pos ⟨hx,hst⟩];rw [if_pos hx] at hci ⊢;omega
  .rw [if_neg (λe=>hx e.1)];rw [if_neg hx] at hci ⊢;omega
def ZLi (x:Int) (o:Out):Int:=if o.Msg_Kind=20 then (if o.Msg_F_0=x then o.Msg_F_2 else 0) else if o.Msg_Kind=21 then (if o.Msg_F_0=x then o.Msg_F_1 else 0) else 0
def acc (x:Int) (os:List Out):Int:=(os.map (ZLi x)).sum
def ZAg (x:Int) (S:DS):Int:=(S.books.map (ZAP x)).sum
theorem ZE7 (x:Int):acc x []=0:=rfl
theorem ZCH (x:Int) (o:Out) (os:List Out):acc x (o::os)=ZLi x o+acc x os:=by unfold acc; rw [List.map_cons,List.sum_cons]
theorem ZDQ (x:Int):∀ (a b:List Out),acc x (a++b)=acc x a+acc x b
 | [],b=>by rw [List.nil_append,ZE7]; omega
 | o::a,b=>by rw [List.cons_append,ZCH,ZCH,ZDQ x a b]; omega
theorem ZET {x:Int} {c:DC} {to kind:Int} {ns:List Int}:acc x (ZBQ c to kind ns).outs=acc x c.outs+ZLi x (ZEb to kind ns):=by show acc x (c.outs++[_])=_;rw [ZDQ,ZCH,ZE7];omega
theorem ZL9 {x:Int} {to kind:Int} {ns:List Int} (h1:kind≠20) (h2:kind≠21):ZLi x (ZEb to kind ns)=0:=by unfold ZLi ZEb;dsimp only;rw [if_neg h1,if_neg h2]
theorem ZKy {x to a b d e:Int}:ZLi x (ZEb to 20 [a,b,d,e])=if a=x then d else 0:=by unfold ZLi ZEb;dsimp only;rw [if_pos rfl];rfl
theorem ZFV {x to a b:Int}:ZLi x (ZEb to 21 [a,b])=if a=x then b else 0:=by unfold ZLi ZEb;dsimp only;rw [if_neg (by decide),if_pos rfl];rfl
theorem ZM7 (x:Int) (t:ZAr):acc x (ZFf t)=0:=by unfold ZFf;rw [ZCH,ZCH,ZE7];unfold ZLi ZYe;simp
theorem ZN6 (φ:List ZE→Int):∀ (bs:List (List ZE)) (i:Nat) (b y:List ZE),bs[i]?=some b→((bs.set i y).map φ).sum+φ b=(bs.map φ).sum+φ y
 | [],i,b,y,h=>by simp at h
 | a::bs,0,b,y,h=>by
   simp only [List.getElem?_cons_zero,Option.some.injEq] at h;subst h;simp only [List.set_cons_zero,List.map_cons,List.sum_cons];omega
 | a::bs,i+1,b,y,h=>by simp only [List.getElem?_cons_succ] at h;have:=ZN6 φ bs i b y h;simp only [List.set_cons_succ,List.map_cons,List.sum_cons];omega
theorem ZQh {S:DS} {n:Int} (h:0<=n/\n<S.books.length):S.books[n.toNat]?=some (Zc S n):=by rw [ZAc h];exact List.getElem?_eq_getElem _
theorem ZKP {x:Int} {S:DS} {n:Int} (h:0<=n/\n<S.books.length) (y:List ZE):ZAg x (ZA7 S n y)+ZAP x (Zc S n)=ZAg x S+ZAP x y:=ZN6 (ZAP x) S.books n.toNat (Zc S n) y (ZQh h)
theorem ZJ4 {x who:Int}:∀ (gs:List ZOs) (c:DC),acc x (gs.foldl (ZB3 who) c).outs=acc x c.outs+(gs.map (ZKX x)).sum
 | [],c=>by simp
 | g::gs,c=>by
   rw [List.foldl_cons,ZJ4 gs (ZB3 who c g),List.map_cons,List.sum_cons];have:acc x (ZB3 who c g).outs=acc x c.outs+ZKX x g:=by unfold ZB3;rw [ZET,ZFV];rfl
   omega
theorem ZTm {x who n:Int} {o:ZE} (st:DC×Int) (f:ZH5):acc x (ZBm who n o st f).1.outs=acc x st.1.outs+ZIY x o.ID f:=by have e:(ZBm who n o st f).1.outs=(ZBQ (ZBQ st.1 f.MakerParty 20 [f.Maker,f.Price,f.Qty,f.Left]) who 20 [o.ID,f.Price,f.Qty,IntKind.i64.wrap (st.2-f.Qty)]).outs++ZFf (ZLZ st.1.d.trades (ZBI st.1.d o.Side who f.MakerParty (ZMc n f))):=rfl;rw [e,ZDQ,ZM7,ZET,ZET,ZKy,ZKy];unfold ZIY;omega
theorem ZKR {x who n:Int} {o:ZE}:∀ (fs:List ZH5) (st:DC×Int),acc x (fs.foldl (ZBm who n o) st).1.outs=acc x st.1.outs+(fs.map (ZIY x o.ID)).sum
 | [],st=>by simp
 | f::fs,st=>by rw [List.foldl_cons,ZKR fs (ZBm who n o st f),List.map_cons,List.sum_cons,ZTm];omega
theorem ZTR {l:List ZE} {o:ZE} {how:Int}:(ZBW l o how=0->(doV l o how).2.2.2.2=0)/\(ZBW l o how≠0->(doV l o how).2.2.2.2≠0/\(doV l o how).1=l):=by
 unfold doV;refine ⟨λh=>?_,λh=>?_⟩
 .rw [if_neg (by rw [h]; simp)]
 .rw [if_pos h]; exact ⟨h,rfl⟩
theorem ZVg {l:List ZE} {o:ZE} {how:Int} (hs:ZFe l):0<=(doV l o how).2.2.2.1:=(ZaL (P:=λ_=>True) (λ_ _=>trivial) hs trivial).2.2.2.1
theorem ZQc {x:Int} {c:DC} {who n how:Int} {o:ZE} (hu:ZBa c.d) (hs:ZFe (Zc c.d n)) (hn:0≤n∧n<c.d.books.length) (hh:0≤how∧how≤4):
 ZAg x (Zt c who n o how).1.d+acc x (Zt c who n o how).1.outs=ZAg x c.d+acc x c.outs+(if (Zt c who n o how).2=0 then (if o.ID=x then o.Left else 0) else 0):=by
 have hb:=(ZCn c who n o how).1;have h2:=(ZBp c who n o how).2.2;have hset:=ZKP (x:=x) hn (ZGN c n o how).1;have hod:ZAg x (Zt c who n o how).1.d=ZAg x (ZA7 c.d n (ZGN c n o how).1):=by unfold ZAg; rw [hb]; rfl
 rw [hod,h2];clear hb h2 hod;have her:=ZTR (l:=Zc c.d n) (o:=ZDv c o) (how:=how);have hle:=ZVg (l:=Zc c.d n) (o:=ZDv c o) (how:=how) hs;have hin:=λhw=>ZZS (x:=x) (how:=how) (o:=ZDv c o) (ZEg hu n) hs hw;have e1:(ZDv c o).ID=o.ID:=rfl;have e2:(ZDv c o).Left=o.Left:=rfl;rw [e1,e2] at hin
 unfold ZGN at hset ⊢;unfold Zt;by_cases hw:ZBW (Zc c.d n) (ZDv c o) how=0
 ·have hin:=hin hw;have he:=her.1 hw;clear her;generalize doV (Zc c.d n) (ZDv c o) how=r at*;rw [if_neg (by rw [he]; simp),if_pos he];have ha:=ZKR (x:=x) (who:=who) (n:=n) (o:=o) r.2.1 (r.2.2.1.foldl (ZB3 who) (ZH7 c n r.1),o.Left);have hg:=ZJ4 (x:=x) (who:=who) r.2.2.1 (ZH7 c n r.1);have hm:(ZH7 c n r.1).outs=c.outs:=rfl;dsimp only at ha;rw [hg,hm] at ha;generalize r.2.1.foldl (ZBm who n o) ((r.2.2.1.foldl (ZB3 who) (ZH7 c n r.1),o.Left))=st at*;dsimp only;by_cases hf:how≠0∧how≠3∧0<r.2.2.2.1
  .rw [if_pos hf,ZET,ZFV];have hst:¬ZC4 how=true:=by unfold ZC4;simp [hf.1,hf.2.1]
   by_cases hx:o.ID=x
   .rw [if_pos ⟨hx,hst⟩] at hin
    rw [if_pos hx] at hin ⊢;rw [if_pos hx];omega
   .rw [if_neg (λe=>hx e.1)] at hin
    rw [if_neg hx] at hin ⊢;rw [if_neg hx];omega
  ·rw [if_neg hf];have hz:(if o.ID=x∧¬ZC4 how=true then r.2.2.2.1 else 0)=0:=by
    split
    .rename_i e;have:¬(how=0\/how=3):=by have:=e.2;unfold ZC4 at this;simpa using this
     have:¬0<r.2.2.2.1:=λe=>hf ⟨by omega,by omega,e⟩;omega
    .rfl
   rw [hz] at hin
   omega
 .have he:=her.2 hw;clear her hin
  generalize doV (Zc c.d n) (ZDv c o) how=r at*;rw [if_pos he.1,if_neg he.1];rw [he.2] at hset ⊢;dsimp only;omega
theorem ZVw {S:DS} {n:Int} (h:¬isBond S n=false):0<=n/\n<S.books.length:=by
 have:isBond S n=true:=by simpa using h
 unfold isBond at this;exact of_decide_eq_true this
theorem ZQ9 {N:Nat} {x:Int} {c:DC} {who:Int} {m:Msg} (i:WOk N c.d) (hu:ZBa c.d):
 ZAg x (ZA4 c who m).1.d+acc x (ZA4 c who m).1.outs=ZAg x c.d+acc x c.outs+(if (ZA4 c who m).2=0 then (if c.d.order+1=x then m.F_3 else 0) else 0)/\
  ((ZA4 c who m).2=0->(ZA4 c who m).1.id=c.d.order+1/\(ZA4 c who m).1.d.order=c.d.order+1):=by
 unfold ZA4;split
 .exact ⟨by simp,λh=>by cases h⟩
 rename_i hb;have hn:=ZVw hb;split
 .exact ⟨by simp,λh=>by cases h⟩
 rename_i hs;split
 .rename_i hf;exact ⟨by dsimp only; omega,λh=>absurd h hf⟩
 have hm:=ZQc (x:=x) (who:=who) (o:=Zs c who m) (how:=m.F_4) hu (ZBS i hn).2.1 hn (by omega);have h3:=(ZBp c who m.F_0 (Zs c who m) m.F_4).1;split
 .rename_i h0;rw [if_pos h0] at hm;refine ⟨?_,λ_=>⟨?_,?_⟩⟩
  .rw [if_pos rfl];exact hm
  .show (Zt c who m.F_0 (Zs c who m) m.F_4).1.d.order+1=_;rw [h3]
  .show (Zt c who m.F_0 (Zs c who m) m.F_4).1.d.order+1=_;rw [h3]
 .rename_i h0;rw [if_neg h0] at hm;exact ⟨hm,λh=>absurd h h0⟩
theorem ZK9 {N n k:Nat} (hN:N<=6500) (hn:n<=300) (hk:k<=1000000):81000*N+1000000*n+k<=1000000000:=by have h1:=Nat.mul_le_mul_left 81000 hN;have h2:=Nat.mul_le_mul_left 1000000 hn;omega
theorem ZPr {A B:Nat} {x:LS} {bs:List Int} (h:LOk A B x) (hb:Zz bs) (hB:B+bs.length<=900000):(ZB7 x bs).2.1.length+ZPw (ZB7 x bs).1<=ZPw x+bs.length:=by have hall:Zz (x.held++bs):=λb hb'=>(List.mem_append.1 hb').elim (h.held b) (hb b);have hfl:=ZJD hall;have hfb:=ZGF hall;rw [List.length_append] at hfl;have hhl:=h.hl;have hk:=ZM3 (A:=A) (B:=B) (s0:=x.s) (Zx (x.held++bs)).1 (k:=0) (st:=(x.s,x.out,[],false)) ⟨rfl,Nat.le_refl _,rfl,Nat.le_refl _,Nat.le_refl _,h.out,h.outs,Nat.le_refl _,λf hf=>by cases hf⟩ hfb.1 h.wf (by omega);have hn:=hk.n;unfold ZB7 ZPw;dsimp only;omega
theorem ZQV {A B C:Nat} {ls:List LS} {i:Nat} {y:LS} (h:∀ x∈ls,LOk A B x) (hc:B<=C) (hy:LOk A C y):∀ x∈ls.set i y,LOk A C x:=λx hx=>(List.mem_or_eq_of_mem_set hx).elim (λhx=>(h x hx).mono (Nat.le_refl _) hc) λe=>e▸hy
section
variable {v:VK} {S:VS} {h:Hp} {l:List Hp}
theorem ZQe {n t i:Nat} {kd:Int} {m:Sl} {g:Hp} {bs:List Int} (a:ZBY v S h l) (hg:g∈l) (r:Row (cI .u8) g m bs) (hb:Zz bs) (iv:ZMH n t S) (hn:n≤299) (ht:t+bs.length≤6500) (hi:i<S.ls.length)
 {Q:PUnit->Hp->Prop} (hq:∀ T h',ZBY v T h' l->ZNI S i S.ls[i] bs T->ZMH (n+1) (t+bs.length) T->T.ls.length=S.ls.length->Q ⟨⟩ h'):ZA TP 63 [Value.pointer v.p,ZFB.enc ⟨kd,(i:Int),m⟩] (ZW []) h Q:=by
 refine c63 (p1:=⟨kd,(i:Int),m⟩) ?_;unfold F63;dsimp only [ZR,VK.p];obtain ⟨N,ok,hpot⟩:=iv;refine ZF (cd:=cSl) (x:=v.sl) a.ob (i:=1) rfl ?_;obtain ⟨c,R,q,o1,hpq,w1,hld,cl⟩:=a.line hi;refine hld ?_;have hx:=ok.l _ (List.getElem_mem hi);have hxi:S.ls[i]?=some S.ls[i]:=List.getElem?_eq_getElem hi;generalize hxe:S.ls[i]=x at*;have hxl:=hx.hl;have hxa:=hx.al;have hN0:N<=6500:=by omega
 have hbig:=ZK9 (k:=0) hN0 (show n<=300 by omega) (Nat.zero_le _);have hbl:=ZRx hx hb (by omega);have hbp:=ZPr hx hb (by omega);refine ZOr o1 w1 (g:=g) (by simp [hg]) r hx.held hb (by omega) (by omega) hx.wf (by omega) (by omega) λsl d c2 h2 o2 w2 wd=>?_;have w2:ZVr q (ZB7 x bs).1 c2:=w2;have wd:Own ZQ d sl (ZB7 x bs).2.1:=wd;have a2:=cl h2 c2 (d::l) _ (o2.pick [0,2,1] 3 (by decide) (by decide)) w2;refine ZJa (o2.mem (by simp)) w2 ?_;have hdn:((Zx (x.held++bs)).1.foldl ZAv (x.s,x.out,[],false)).2.2.2=(ZB7 x bs).2.2:=rfl;have hup:((Zx (x.held++bs)).1.foldl ZAv (x.s,x.out,[],false)).1.up=(ZB7 x bs).1.s.up:=rfl;unfold ZNI at hq;generalize hbr:ZB7 x bs=br at*;obtain ⟨y,asks,dn⟩:=br;dsimp only at*;rw [hdn];have hps:=ZI5 (y:=y) hxi;have hok1:VOk N (81000*N+1000000*n) (t+bs.length+8*n) ⟨S.d,S.ls.set i y⟩:=⟨ok.w,ok.f,ZQV ok.l (by omega) (hbl.1.mono (Nat.le_refl _) (by omega)),by dsimp only; rw [List.length_set]; exact ok.n⟩
 have hlen1:(S.ls.set i y).length=S.ls.length:=List.length_set;generalize hS1:(⟨S.d,S.ls.set i y⟩:VS)=S1 at*;have hls1:S1.ls=S.ls.set i y:=by rw [<-hS1]
 have hwl:=wd.1;refine Zb (λz h'=>∃ (j:Nat) (U:VS),z=(j:Int)/\j<=asks.length/\ZBY v U h' (d::l)/\VOk (N+j) (81000*(N+j)+1000000*n) (t+bs.length+8*n) U/\ZD6 S1.ls U.ls/\(∀ W,ZJQ (i:Int) U (asks.drop j) W->ZJQ (i:Int) S1 asks W)) (λz=>asks.length-z.toNat)
  ⟨0,S1,rfl,Nat.zero_le _,a2,hok1,ZD6.refl _,λW hW=>hW⟩ ?_
 rintro J z h3 again ⟨j,U,rfl,hj,a3,ok3,lt3,as3⟩
 refine ZJ (λhlt=>?_) λhge=>?_
 .have hj':j<asks.length:=by omega
  have a0:asks[j]?=some asks[j]:=List.getElem?_eq_getElem hj';have hfr:=hbl.2.1 _ (List.getElem_mem hj');refine ZL wd.row (Int.natCast_nonneg j) (by omega) λp hp=>ZO wd.row (a3.sub (by simp)) rfl hp (i:=j) a0 (by rfl) ?_;have hdr:asks.drop j=asks[j]::asks.drop (j+1):=List.drop_eq_getElem_cons hj';generalize asks[j]=f at*;refine ZF (cd:=Go.Eng.cP) (x:=v.k.p) a3.ob (i:=0) rfl ?_;obtain ⟨R4,b4,cl4⟩:=a3.desk;have hNj:N+j+1<=6500:=by omega
  have hlo:=ZJo (c:=ZEf U.d) (who:=(i:Int)) (m:=ZDZ f) ok3.w;have h00:(ZEf U.d).outs.length=0:=rfl;refine ZKC (who:=(i:Int)) (seq:=f.Seq) (m:=ZDZ f) b4 ok3.w (by omega) (by omega) λs5 d5 h5 b5 w5=>?_;have hdo:=ZZJ (who:=(i:Int)) (seq:=f.Seq) (m:=ZDZ f) ok3.w ok3.f (by omega) hfr.2 hfr.1;have a5:=cl4 h5 (d5::d::l) _ (b5.perm (List.Perm.swap _ _ _));have hbj:=ZK9 (k:=200000) (show N+j<=6500 by omega) (show n<=300 by omega) (by omega);refine ZD7 (g:=d5) (N:=N+j+1) (A:=81000*(N+j)+1000000*n) (B:=t+bs.length+8*n) a5 (by simp) w5.row ⟨hdo.1,hdo.2.1,ok3.l,ok3.n⟩ (by omega) hdo.2.2.1 (by have:=hdo.2.2.2; omega) λT h6 a6 tl ok6 hl6=>?_;have tlt:=ZDJ tl;have tlt:ZD6 U.ls T.ls:=tlt;rw [ZAQ (by omega)];refine again _ _ ⟨j+1,T,rfl,by omega,a6.drop,ok6.mono (by omega) (by have:=hdo.2.2.2; omega) (Nat.le_refl _),lt3.trans tlt,λW hW=>as3 W ?_⟩ (by omega);rw [hdr];exact ZJQ.cons tl hW
 ·have hje:j=asks.length:=by omega
  subst hje;have as3:=as3 U (by rw [List.drop_length]; exact ZJQ.nil);have hul:U.ls.length=S.ls.length:=by rw [lt3.1,hls1,hlen1]
  have hiu:i<U.ls.length:=by omega
  have hui:U.ls[i]?=some U.ls[i]:=List.getElem?_eq_getElem hiu;have hNa:N+asks.length<=6500:=by omega
  have hpu:pot U.ls=pot (S.ls.set i y):=by rw [lt3.2.1,hls1]
  refine ZN (λtt h'=>h'=h3/\(tt=true↔(dn=true\/(y.s.up=true/\U.ls[i].s.up=false)))) ?_ λJ2 hJ2=>?_
  .rintro tt h' ⟨rfl,htt⟩;refine ZD (λe=>?_) λe=>?_
   .refine ZF (cd:=Go.Eng.cP) (x:=v.k.p) a3.ob (i:=0) rfl ?_;obtain ⟨R4,b4,cl4⟩:=a3.desk;refine Go.Proofs.YtkmniidiifpdgaaGreat.ZHN (who:=(i:Int)) b4 ok3.w (by omega) λs5 d5 h5 b5 w5 _ hol=>?_;have hgw:=ZLC (who:=(i:Int)) ok3.w;have hgf:=ZIN (who:=(i:Int)) ok3.w ok3.f;have a5:=cl4 h5 (d5::d::l) _ (b5.perm (List.Perm.swap _ _ _));have hbj:=ZK9 (k:=200000) hNa (show n<=300 by omega) (by omega);refine ZD7 (g:=d5) (N:=N+asks.length) (A:=81000*(N+asks.length)+1000000*n) (B:=t+bs.length+8*n) a5 (by simp) w5.row ⟨hgw.1,hgf.1,ok3.l,ok3.n⟩ (by omega) hgf.2 (by have:=hgw.2; omega) λT h6 a6 tl ok6 hl6=>?_;refine hq T h6 a6.drop.drop ⟨U,U.ls[i],as3,hui,?_⟩ ⟨N+asks.length,ok6.mono (Nat.le_refl _) (by have:=hgw.2; omega) (by omega),?_⟩ (hl6.trans hul)
    .rw [if_pos (htt.1 e)]; exact tl
    .have:=(ZDJ tl).2.1;have this:pot T.ls=pot U.ls:=this;omega
   .have e:¬(dn=true\/(y.s.up=true/\U.ls[i].s.up=false)):=λe2=>by rw [htt.2 e2] at e; cases e
    refine hq U _ a3.drop ⟨U,U.ls[i],as3,hui,?_⟩ ⟨N+asks.length,ok3.mono (Nat.le_refl _) (by omega) (by omega),by omega⟩ hul;rw [if_neg e]
  .refine ZD (λe=>hJ2 _ _ ⟨rfl,?_⟩) λe=>?_
   .have e:dn=true:=e;simp [e]
   .have e:dn=false:=e;refine ZD (λe1=>?_) λe1=>hJ2 _ _ ⟨rfl,?_⟩
    .have e1:y.s.up=true:=e1;obtain ⟨c6,R6,q6,o6,hq6,w6,_,_⟩:=a3.line hiu;rw [hpq] at hq6;cases hq6;refine ZJa (o6.mem (by simp)) w6 (hJ2 _ _ ⟨rfl,?_⟩);rw [e,e1];simp
    .have e1:y.s.up=false:=e1;rw [e,e1];simp
end
theorem ZU8 {A B:Nat} {x:LS} (h:LOk A B x):LOk A (B+1) (ZE6 x).1:=by have hb:=ZRJ x.s;have hg:=ZCo (ZCb x.s).2.1 ((ZCb x.s).1,x.out,false);dsimp only at hg;have hl:=h.hl;have h1:=h.sent;have h2:=h.heard;unfold ZE6 ZFa;exact ⟨h.held,by dsimp only; rw [hg.2.2.1,hb.2.2.1]; omega,by dsimp only; rw [hg.2.1,hb.2.1]; exact h.wf,by dsimp only; rw [hg.2.1,hb.2.1]; exact h.al,by dsimp only; rw [hg.1,hb.1]; exact h.beat,by dsimp only; rw [hg.2.2.2.1]; omega,by dsimp only; rw [hg.2.2.2.2.1]; omega,hg.2.2.2.2.2.2 h.out,ZFT _ _ (ZQo x.s) h.outs⟩
theorem ZWT {A B:Nat} {x:LS} (h:LOk A B x):LOk A B (ZOi x).1:=⟨h.held,h.hl,h.wf,h.al,h.beat,h.sent,h.heard,h.out,h.outs⟩
theorem ZMH.mono {n t n' t':Nat} {S:VS} (h:ZMH n t S) (hn:n<=n') (ht:t<=t'):ZMH n' t' S:=by obtain ⟨N,ok,hp⟩:=h;exact ⟨N,ok.mono (Nat.le_refl _) (by omega) (by omega),by omega⟩
section
variable {v:VK} {S:VS} {h:Hp} {l:List Hp}
theorem ZQI {n t:Nat} (a:ZBY v S h l) (iv:ZMH n t S) (hn:n≤299) (ht:t≤6500) {Q:PUnit→Hp→Prop} (hq:∀ T h',ZBY v T h' l→ZRr S T→ZMH (n+1) t T→T.ls.length=S.ls.length→Q ⟨⟩ h'):ZA TP 61 [Value.pointer v.p] (ZW []) h Q:=by
 refine c61 ?_;unfold F61;dsimp only [ZR,VK.p];obtain ⟨N,ok,hpot⟩:=iv;have hN0:N<=6500:=by omega
 have h8:=ok.n;have hbig:=ZK9 (k:=1000000) hN0 (show n<=300 by omega) (Nat.le_refl _);refine ZF (cd:=Go.Eng.cP) (x:=v.k.p) a.ob (i:=0) rfl ?_;obtain ⟨R,b,cl⟩:=a.desk;refine ZGH b ok.w ok.f (by omega) λd s outs dd h1 b1 w1 ag wk fk qu oo hlen=>?_;have a1:=cl h1 (dd::l) d (b1.perm (List.Perm.swap _ _ _));refine ZD7 (g:=dd) (N:=N) (A:=81000*N+1000000*n) (B:=t+8*n) a1 (by simp) w1.row ⟨wk,fk,ok.l,ok.n⟩ (by omega) oo (by omega) λU h2 a2 tl ok2 hl2=>?_;have tll:=ZDJ tl;have hpu:pot U.ls=pot S.ls:=tll.2.1;have hl2:U.ls.length=S.ls.length:=hl2;have a2:=a2.drop;refine ZF (cd:=cSl) (x:=v.sl) a2.ob (i:=1) rfl ?_;have hvl:=a2.len;refine Zb (λz h'=>∃ (j:Nat) (W:VS),z=(j:Int)/\j<=S.ls.length/\ZBY v W h' l/\VOk N (81000*N+1000000*n+100000+81000*j) (t+8*n+j) W/\ZEA U j W/\pot W.ls=pot S.ls/\W.ls.length=S.ls.length) (λz=>S.ls.length-z.toNat)
  ⟨0,U,rfl,Nat.zero_le _,a2,ok2.mono (Nat.le_refl _) (by omega) (Nat.le_refl _),ZEA.zero,hpu,hl2⟩ ?_
 rintro J z h3 again ⟨j,W,rfl,hj,a3,ok3,ln3,hp3,hl3⟩
 refine ZJ (λhlt=>?_) λhge=>?_
 .have hj':j<W.ls.length:=by omega
  rw [ZAQ (by omega)];refine ZN (λ_ h'=>∃ W':VS,ZBY v W' h' l/\VOk N (81000*N+1000000*n+100000+81000*(j+1)) (t+8*n+(j+1)) W'/\ZEA U (j+1) W'/\pot W'.ls=pot S.ls/\W'.ls.length=S.ls.length) ?_ λJ2 hJ2=>?_
  .rintro _ h' ⟨W',a',ok',ln',hp',hl'⟩;exact again _ _ ⟨j+1,W',rfl,by omega,a',ok',ln',hp',hl'⟩ (by omega)
  .obtain ⟨c4,R4,q,o4,_,w4,hld,cl4⟩:=a3.line hj';refine hld ?_;have hxi:W.ls[j]?=some W.ls[j]:=List.getElem?_eq_getElem hj';have hx:=ok3.l _ (List.getElem_mem hj');generalize W.ls[j]=x at*;have hx1:=hx.sent;have hx2:=hx.heard;refine ZRB o4 w4 hx.beat (by omega) (by omega) λc5 h5 o5 w5=>?_;have w5:ZVr q (ZE6 x).1 c5:=w5;have a5:=cl4 h5 c5 l _ o5 w5;have hps:=ZI5 (y:=(ZE6 x).1) hxi;have hpe:ZPw (ZE6 x).1=ZPw x:=rfl;have hset:(W.ls.set j (ZE6 x).1).length=W.ls.length:=List.length_set;have hls:=ZQV (i:=j) (C:=t+8*n+(j+1)) ok3.l (by omega) ((ZU8 hx).mono (Nat.le_refl _) (by omega));have hdn:(ZFa x.s x.out).2.2=(ZE6 x).2:=rfl;rw [hdn];refine ZD (λe=>?_) λe=>?_
   .have e:(ZE6 x).2=true:=e;refine ZF (cd:=Go.Eng.cP) (x:=v.k.p) a5.ob (i:=0) rfl ?_;obtain ⟨R6,b6,cl6⟩:=a5.desk;refine Go.Proofs.YtkmniidiifpdgaaGreat.ZHN (who:=(j:Int)) b6 ok3.w (by omega) λs7 d7 h7 b7 w7 _ hol=>?_;have hgw:=ZLC (who:=(j:Int)) ok3.w;have hgf:=ZIN (who:=(j:Int)) ok3.w ok3.f;have a7:=cl6 h7 (d7::l) _ (b7.perm (List.Perm.swap _ _ _));refine ZD7 (g:=d7) (N:=N) (A:=81000*N+1000000*n+100000+81000*j) (B:=t+8*n+(j+1)) a7 (by simp) w7.row ⟨hgw.1,hgf.1,hls,by dsimp only; omega⟩ (by omega) hgf.2 (by have:=hgw.2; omega) λT h8 a8 tl8 ok8 hl8=>?_;have tlr:=ZDJ tl8;have hp8:pot T.ls=pot (W.ls.set j (ZE6 x).1):=tlr.2.1;have hl8:T.ls.length=(W.ls.set j (ZE6 x).1).length:=hl8;exact hJ2 _ _ ⟨T,a8.drop,ok8.mono (Nat.le_refl _) (by have:=hgw.2; omega) (Nat.le_refl _),ZEA.down ln3 hxi e tl8,by omega,by omega⟩
   .have e:(ZE6 x).2=false:=e;exact hJ2 _ _ ⟨_,a5,⟨ok3.w,ok3.f,λy hy=>(hls y hy).mono (by omega) (Nat.le_refl _),by dsimp only; omega⟩,ZEA.stay ln3 hxi e,by dsimp only; omega,by dsimp only; omega⟩
 .have hje:j=S.ls.length:=by omega
  subst hje;exact hq W h3 a3 ⟨d,outs,U,ag,qu,tl,ln3⟩ ⟨N,ok3.mono (Nat.le_refl _) (by omega) (by omega),by omega⟩ hl3
theorem ZYX {n t:Nat} {p1:ZFB.T} {g:Hp} {bs:List Int} (a:ZBY v S h l) (hg:g∈l) (r:Row (cI .u8) g p1.B bs) (hb:Zz bs) (iv:ZMH n t S) (hn:n<=299) (ht:t+bs.length<=6500)
 {Q:Bool->Hp->Prop} (hq:∀ T h' b,ZBY v T h' l->DoR S p1.Kind p1.Who bs T b->ZMH (n+1) (t+bs.length) T->T.ls.length=S.ls.length->Q b h'):ZA TP 25 [Value.pointer v.p,ZFB.enc p1] cB h Q:=by
 refine c25 (p1:=p1) ?_;unfold F25;unfold DoR at hq;refine ZT rfl ?_;have iv':ZMH (n+1) (t+bs.length) S:=iv.mono (by omega) (by omega);refine ZD (λe=>?_) λe=>?_
 .have e:p1.Kind=2:=by simpa using e
  refine ZQI a iv hn (by omega) λT h' a' tr iv2 hl'=>?_;exact hq T h' true a' (by rw [if_pos e]; exact ⟨rfl,tr⟩) (iv2.mono (Nat.le_refl _) (by omega)) hl'
 have e2:p1.Kind≠2:=by simpa using e
 refine ZQT a ?_;refine ZD (λe=>?_) λe=>?_
 .have e:¬(0<=p1.Who/\p1.Who<(S.ls.length:Int)):=by simpa only [Bool.not_eq_true',decide_eq_false_iff_not] using e
  exact hq S h false a (by rw [if_neg e2,if_pos e]; exact ⟨rfl,rfl⟩) iv' rfl
 have ew:0<=p1.Who/\p1.Who<(S.ls.length:Int):=by simpa using e
 have hwn:¬¬(0<=p1.Who/\p1.Who<(S.ls.length:Int)):=λh=>h ew;refine ZD (λe=>?_) λe=>?_
 .have ek:p1.Kind=1:=by simpa using e
  obtain ⟨kd,w,m⟩:=p1;dsimp only at*;obtain ⟨i,rfl⟩:=Int.eq_ofNat_of_zero_le ew.1;have hi:i<S.ls.length:=by omega
  refine ZQe (kd:=kd) (m:=m) a hg r hb iv hn ht hi λT h' a' tr iv2 hl'=>?_;exact hq T h' true a' (by rw [if_neg e2,if_neg hwn,if_pos ek]; exact ⟨rfl,S.ls[i],List.getElem?_eq_getElem hi,tr⟩) iv2 hl'
 have e1:p1.Kind≠1:=by simpa using e
 refine ZD (λe=>?_) λe=>?_
 .have ek:p1.Kind=3:=by simpa using e
  obtain ⟨kd,w,m⟩:=p1;dsimp only at*;obtain ⟨i,rfl⟩:=Int.eq_ofNat_of_zero_le ew.1;have hi:i<S.ls.length:=by omega
  obtain ⟨N,ok,hpot⟩:=iv;have hbig:=ZK9 (k:=1000000) (show N<=6500 by omega) (show n<=300 by omega) (Nat.le_refl _);dsimp only [ZR,VK.p];refine ZF (cd:=cSl) (x:=v.sl) a.ob (i:=1) rfl ?_;obtain ⟨c4,R4,q,o4,_,w4,hld,cl4⟩:=a.line hi;refine hld ?_;have hxi:S.ls[i]?=some S.ls[i]:=List.getElem?_eq_getElem hi;have hx:=ok.l _ (List.getElem_mem hi);generalize S.ls[i]=x at*;refine ZUU o4 w4 λc5 h5 o5 w5=>?_;have w5:ZVr q (ZOi x).1 c5:=w5;have a5:=cl4 h5 c5 l _ o5 w5;have hps:=ZI5 (y:=(ZOi x).1) hxi;have hpe:ZPw (ZOi x).1=ZPw x:=rfl;have hset:(S.ls.set i (ZOi x).1).length=S.ls.length:=List.length_set;have hls:=ZQV (i:=i) ok.l (Nat.le_refl _) (ZWT hx);have hdn:(ZMF x.s).2=(ZOi x).2:=rfl;have hn8:=ok.n;rw [hdn];have hR:∀ T,ZZN S i x T->(if kd=2 then true=true/\ZRr S T else if ¬(0<=(i:Int)/\(i:Int)<(S.ls.length:Int)) then true=false/\T=S else if kd=1 then true=true/\∃ x,S.ls[(i:Int).toNat]?=some x/\ZNI S (i:Int).toNat x bs T else if kd=3 then true=true/\∃ x,S.ls[(i:Int).toNat]?=some x/\ZZN S (i:Int).toNat x T else true=false/\T=S):=λT hT=>by rw [if_neg e2,if_neg hwn,if_neg e1,if_pos ek];exact ⟨rfl,x,hxi,hT⟩
  refine ZD (λe=>?_) λe=>?_
  .have e:(ZOi x).2=true:=e;refine ZF (cd:=Go.Eng.cP) (x:=v.k.p) a5.ob (i:=0) rfl ?_;obtain ⟨R6,b6,cl6⟩:=a5.desk;refine Go.Proofs.YtkmniidiifpdgaaGreat.ZHN (who:=(i:Int)) b6 ok.w (by omega) λs7 d7 h7 b7 w7 _ hol=>?_;have hgw:=ZLC (who:=(i:Int)) ok.w;have hgf:=ZIN (who:=(i:Int)) ok.w ok.f;have a7:=cl6 h7 (d7::l) _ (b7.perm (List.Perm.swap _ _ _));refine ZD7 (g:=d7) (N:=N) (A:=81000*N+1000000*n) (B:=t+8*n) a7 (by simp) w7.row ⟨hgw.1,hgf.1,hls,by dsimp only; omega⟩ (by omega) hgf.2 (by have:=hgw.2; omega) λT h8 a8 tl8 ok8 hl8=>?_;have tlr:=ZDJ tl8;have hp8:pot T.ls=pot (S.ls.set i (ZOi x).1):=tlr.2.1;have hl8:T.ls.length=(S.ls.set i (ZOi x).1).length:=hl8;refine hq T h8 true a8.drop (hR T ?_) ⟨N,ok8.mono (Nat.le_refl _) (by have:=hgw.2; omega) (by omega),by omega⟩ (by omega);unfold ZZN;rw [if_pos e];exact tl8
  .have e:(ZOi x).2=false:=e;refine hq _ h5 true a5 (hR _ ?_) ⟨N,VOk.mono ⟨ok.w,ok.f,hls,by dsimp only; omega⟩ (Nat.le_refl _) (by omega) (by omega),by dsimp only; omega⟩ hset;unfold ZZN;rw [if_neg (by rw [e]; simp)]
 have e3:p1.Kind≠3:=by simpa using e
 exact hq S h false a (by rw [if_neg e2,if_neg hwn,if_neg e1,if_neg e3]; exact ⟨rfl,rfl⟩) iv' rfl
end
def ZIB:Bond:=⟨5,10,10,100,5,500,false⟩
def ZD1:Bond:=⟨1,1,1,1000,1,1000,false⟩
def ZD8:List ZAa:=[⟨1,12,0⟩,⟨1,4,0⟩,⟨2,0,100000⟩,⟨2,0,3000⟩,⟨3,0,0⟩]
def ZCT (w:Int):List Bond×List ZAa×Int×Int:=
 if w=1 then ([ZD1],ZD8,1,50) else if w=2 then ([ZD1,ZIB],ZD8,3,4) else if w=3 then ([ZIB,ZD1],ZD8++[⟨1,12,0⟩,⟨2,0,0⟩],3,50) else ([ZIB,ZD1],ZD8,3,50)
theorem ZSa (w:Int):ZC8 (ZCT w).1 (ZCT w).2.1 (ZCT w).2.2.1 (ZCT w).2.2.2=true:=by
 unfold ZCT;split
 .decide
 split
 .decide
 split
 .decide
 .decide
section
variable {h:Hp} {l:List Hp}
theorem ZOH {way:Int} (o:On h l) {Q:ZEl->Hp->Prop}
 (hq:∀ sb sp gb gp h',On h' (gb::gp::l)->Row ZAB gb sb (ZCT (ZDH .i64 way 3)).1->Row Z2 gp sp (ZCT (ZDH .i64 way 3)).2.1->Q ⟨sb,sp,(ZCT (ZDH .i64 way 3)).2.2.1,(ZCT (ZDH .i64 way 3)).2.2.2⟩ h'):
 ZA TP 9 [Value.int .i64 way] ZAq h Q:=by
 refine c9 ?_;unfold F9;generalize ZDH .i64 way 3=w at*;unfold ZCT at hq;refine ZH o λk1 h1 o1=>ZH o1 λk2 h2 o2=>?_;have own2:Own Z2 (ob k2 (ZG Z2 ZD8) 108) ⟨some ⟨k2,0,none⟩,5,5⟩ ZD8:=ZBN (rest:=[]) (by rfl) rfl rfl;refine ZN (λx h'=>Q x h') (λx h' hx=>hx) λJ hJ=>?_;refine ZD (λe=>?_) λe=>?_
 .have e:w=1:=by simpa using e
  rw [if_pos e] at hq;refine ZH o2 λk3 h3 o3=>hJ _ _ ?_;exact hq ⟨some ⟨k3,0,none⟩,1,1⟩ ⟨some ⟨k2,0,none⟩,5,5⟩ _ _ h3 (o3.pick [0,1] 3 (by decide) (by decide)) (Ze (by rfl) rfl) (Ze (by rfl) rfl)
 have e1:¬w=1:=by simpa using e
 rw [if_neg e1] at hq;refine ZD (λe=>?_) λe=>?_
 .have e:w=2:=by simpa using e
  rw [if_pos e] at hq;refine ZH o2 λk3 h3 o3=>hJ _ _ ?_;exact hq ⟨some ⟨k3,0,none⟩,2,2⟩ ⟨some ⟨k2,0,none⟩,5,5⟩ _ _ h3 (o3.pick [0,1] 3 (by decide) (by decide)) (Ze (by rfl) rfl) (Ze (by rfl) rfl)
 have e2:¬w=2:=by simpa using e
 rw [if_neg e2] at hq;refine ZD (λe=>?_) λe=>?_
 .have e:w=3:=by simpa using e
  rw [if_pos e] at hq;refine ZH o2 λk3 h3 o3=>?_;refine ZU (cd:=Z2) (g:=ob k3 (ZG Z2 [⟨1,12,0⟩,⟨2,0,0⟩]) 108) (s:=⟨some ⟨k2,0,none⟩,5,5⟩) (t:=⟨some ⟨k3,0,none⟩,2,2⟩) (xs:=ZD8) (ys:=[⟨1,12,0⟩,⟨2,0,0⟩]) (o3.pick [1,0,2] 3 (by decide) (by decide)) rfl own2 (by decide) (Ze (by rfl) rfl) (o3.get (i:=0) rfl) (by decide) λd4 p n m h4 o4 w4=>hJ _ _ ?_;exact hq ⟨some ⟨k1,0,none⟩,2,2⟩ ⟨p,n,m⟩ _ _ h4 (o4.pick [2,0] 3 (by decide) (by decide)) (Ze (by rfl) rfl) w4.row
 have e3:¬w=3:=by simpa using e
 rw [if_neg e3] at hq;exact hJ _ _ (hq ⟨some ⟨k1,0,none⟩,2,2⟩ ⟨some ⟨k2,0,none⟩,5,5⟩ _ _ h2 (o2.pick [1,0] 2 (by decide) (by decide)) (Ze (by rfl) rfl) (Ze (by rfl) rfl))
def ZAG (f:ZP):List Int:=ZBA (ZAf f)
theorem ZBd {f:ZP} (h:wfF f):Zz (ZAG f):=ZMg (ZDl f) (ZCe h)
theorem ZCi {f:ZP} (h:wfF f):(ZAG f).length<=86:=by have:=ZCe h;unfold ZAG;rw [ZEa];omega
theorem ZNg {p:Sl} {g:Hp} {f:ZP} (o:On h l) (hg:g∈l) (r:Row ZQ g p [f]) (hw:wfF f) {Q:Sl->Hp->Prop} (hq:∀ s d h',On h' (d::l)->Own (cI .u8) d s (ZAG f)->Q s h'):ZA TP 68 [Value.slice p.a p.len p.cap] cSl h Q:=by
 refine c68 ?_;unfold F68;have hl:p.len=1:=r.1;have hb:=ZCe hw;refine Zb (λz h'=>(z=(⟨none,0,0⟩,0)/\h'=h)\/∃ s d,z=(s,1)/\On h' (d::l)/\Own (cI .u8) d s (ZAG f)) (λz=>1-z.2.toNat) (.inl ⟨rfl,rfl⟩) ?_;rintro J z h1 again (⟨rfl,rfl⟩|⟨s,d,rfl,o1,w1⟩)
 .dsimp only;refine ZJ (λ_=>?_) λhge=>absurd (show (0:Int)<(p.len:Int) by omega) hge;refine ZL r (by decide) (by simp) λq hq'=>ZO r (o.mem hg) rfl hq' (i:=0) rfl (by rfl) ?_;refine ZPI o hw λs2 d2 h2 o2 w2=>?_;refine ZT8 (body:=ZAf f) o2 (g:=d2) (by simp) w2.row (ZDl f) (by omega) (λh80=>absurd h80 (by omega)) λ_ s3 d3 h3 o3 w3=>?_;have o3':On h3 (Hp.emp::d3::l):=(o3.pick [0] 2 (by decide) (by decide)).emp;refine ZU (cd:=cI .u8) (g:=d3) (s:=⟨none,0,0⟩) (t:=s3) (xs:=[]) (ys:=ZBA (ZAf f)) o3' rfl (Own.nil _) (by decide) w3.row (o3.get (i:=0) rfl) ?_ λd4 p4 n4 m4 h4 o4 w4=>?_
  .rw [ZEa];exact Nat.le_trans (Nat.mul_le_mul_right _ (show _<=100 by simp only [List.length_nil]; omega)) (by decide)
  .refine again _ _ (.inr ⟨⟨p4,n4,m4⟩,d4,rfl,o4.pick [0] 2 (by decide) (by decide),?_⟩) (by show 1-(IntKind.i64.wrap (0+1)).toNat<1-(0:Int).toNat; decide);rw [List.nil_append] at w4;exact w4
 .dsimp only;refine ZJ (λhlt=>absurd hlt (by omega)) λ_=>?_;exact hq s d h1 o1 w1
theorem ZH8:I64 1:=⟨by decide,by decide⟩
def onF (n:Int):ZP:=mkF 0 (mkM 1 [n])
theorem ZC5 {s:Int} {m:Msg} (hs:I64 s) (hm:ZE1 m):wfF (mkF s m):=by obtain ⟨h0,h1,h2,h3,h4,h5,h6⟩:=hm;unfold wfF;intro n hn;simp only [mkF,ZDZ,fs,List.mem_cons,List.not_mem_nil,or_false] at hn;rcases hn with rfl|rfl|rfl|rfl|rfl|rfl|rfl|rfl<;>assumption
theorem ZIf:wfF (onF 1):=ZC5 ZF5 ⟨ZH8,ZH8,ZF5,ZF5,ZF5,ZF5,ZF5⟩
theorem ZVv (o:On h l) {Q:Sl->Hp->Prop} (hq:∀ s d h',On h' (d::l)->Own (cI .u8) d s (ZAG (onF 1))->Q s h'):ZA TP 29 [Value.int .i64 1] cSl h Q:=by refine c29 ?_;unfold F29;refine ZH o λk1 h1 o1=>?_;refine ZLA (k:=1) (p:=⟨some ⟨k1,0,none⟩,1,1⟩) (ns:=[1]) (o1.get (i:=0) rfl) (Ze (by rfl) rfl) ?_;refine ZH (vs:=ZG ZQ [onF 1]) o1 λk2 h2 o2=>?_;refine ZNg (p:=⟨some ⟨k2,0,none⟩,1,1⟩) (g:=ob k2 (ZG ZQ [onF 1]) 161) (f:=onF 1) o2 (by simp) (Ze rfl rfl) ZIf λs d h3 o3 w3=>?_;exact hq s d h3 (o3.pick [0] 3 (by decide) (by decide)) w3
theorem ZGo {who seq:Int} {m:Msg} (o:On h l) (hs:I64 seq) (hm:ZE1 m) {Q:Act->Hp->Prop} (hq:∀ s d h',On h' (d::l)->Own (cI .u8) d s (ZAG (mkF seq m))->Q ⟨1,who,s⟩ h'):
 ZA TP 30 [Value.int .i64 who,Value.int .i64 seq,ZAn.enc m] ZFB h Q:=by
 refine c30 ?_;unfold F30;refine ZH (vs:=ZG ZQ [mkF seq m]) o λk2 h2 o2=>?_;refine ZNg (p:=⟨some ⟨k2,0,none⟩,1,1⟩) (g:=ob k2 (ZG ZQ [mkF seq m]) 161) (f:=mkF seq m) o2 (by simp) (Ze rfl rfl) (ZC5 hs hm) λs d h3 o3 w3=>?_;exact hq s d h3 (o3.pick [0] 2 (by decide) (by decide)) w3
def ZKc (l:List Hp) (xs:List Act) (bss:List (List Int)):Prop:=xs.length=bss.length/\∀ (i:Nat) (x:Act) (bs:List Int),xs[i]?=some x->bss[i]?=some bs->Zz bs/\∃ g∈l,Row (cI .u8) g x.B bs
theorem ZKc.mono {l l':List Hp} {xs:List Act} {bss:List (List Int)} (h:ZKc l xs bss) (hl:∀ g∈l,g∈l'):ZKc l' xs bss:=⟨h.1,λi x bs h1 h2=>by
 obtain ⟨hb,g,hg,r⟩:=h.2 i x bs h1 h2;exact ⟨hb,g,hl g hg,r⟩⟩
end
def ZZv:Msg:=mkM 9 [0,1,10,4,20]
def ZOK:Msg:=mkM 10 [1,100,10]
def ZZz:Msg:=mkM 12 [1]
def ZVU:Msg:=mkM 14 [1]
def ZPT:List (Int×ZP):=[(0,onF 1),(2,onF 1),(0,mkF 1 ZZv),(2,mkF 1 ZOK),(0,mkF 2 ZZz),(2,mkF 2 ZVU)]
theorem ZNY {k a b c d e f:Int} (h:∀ n∈[k,a,b,c,d,e,f],-1000<=n/\n<=1000):ZE1 ⟨k,a,b,c,d,e,f⟩:=by
 have g:∀ n∈[k,a,b,c,d,e,f],I64 n:=λn hn=>by have:=h n hn; exact ⟨by omega,by omega⟩
 exact ⟨g _ (by simp),g _ (by simp),g _ (by simp),g _ (by simp),g _ (by simp),g _ (by simp),g _ (by simp)⟩
theorem ZJe:ZE1 ZZv:=ZNY (by decide)
theorem ZFJ:ZE1 ZOK:=ZNY (by decide)
theorem ZI7:ZE1 ZZz:=ZNY (by decide)
theorem ZGr:ZE1 ZVU:=ZNY (by decide)
theorem ZK7:I64 2:=⟨by decide,by decide⟩
def ZFH (s1 s2 s3 s4 s5 s6:Sl):List Act:=[⟨1,0,s1⟩,⟨1,2,s2⟩,⟨1,0,s3⟩,⟨1,2,s4⟩,⟨1,0,s5⟩,⟨1,2,s6⟩]
section
variable {h:Hp} {l:List Hp}
theorem ZWn (o:On h l) {Q:Sl->Hp->Prop} (hq:∀ s d s1 s2 s3 s4 s5 s6 l' h',On h' (d::(l'++l))->Own ZFB d s (ZFH s1 s2 s3 s4 s5 s6)->ZKc (l'++l) (ZFH s1 s2 s3 s4 s5 s6) (ZPT.map λx=>ZAG x.2)->Q s h'):
 ZA TP 55 [Value.slice none 0 0] cSl h Q:=by
 refine c55 (p0:=⟨none,0,0⟩) ?_;unfold F55;refine ZVv o λs1 d1 h1 o1 w1=>ZVv o1 λs2 d2 h2 o2 w2=>?_;refine ZH o2 λk3 h3 o3=>?_;refine ZLA (k:=9) (p:=⟨some ⟨k3,0,none⟩,5,5⟩) (ns:=[0,1,10,4,20]) (o3.get (i:=0) rfl) (Ze (by rfl) rfl) ?_;refine ZGo (who:=0) (seq:=1) (m:=ZZv) o3 ZH8 ZJe λs3 d3 h4 o4 w3=>?_;refine ZH o4 λk5 h5 o5=>?_;refine ZLA (k:=10) (p:=⟨some ⟨k5,0,none⟩,3,3⟩) (ns:=[1,100,10]) (o5.get (i:=0) rfl) (Ze (by rfl) rfl) ?_;refine ZGo (who:=2) (seq:=1) (m:=ZOK) o5 ZH8 ZFJ λs4 d4 h6 o6 w4=>?_;refine ZH o6 λk7 h7 o7=>?_;refine ZLA (k:=12) (p:=⟨some ⟨k7,0,none⟩,1,1⟩) (ns:=[1]) (o7.get (i:=0) rfl) (Ze (by rfl) rfl) ?_;refine ZGo (who:=0) (seq:=2) (m:=ZZz) o7 ZK7 ZI7 λs5 d5 h8 o8 w5=>?_;refine ZH (vs:=ZG ZFB [⟨1,0,s1⟩,⟨1,2,s2⟩,⟨1,0,s3⟩,⟨1,2,s4⟩,⟨1,0,s5⟩]) o8 λk9 h9 o9=>?_;have own9:Own ZFB (ob k9 (ZG ZFB [⟨1,0,s1⟩,⟨1,2,s2⟩,⟨1,0,s3⟩,⟨1,2,s4⟩,⟨1,0,s5⟩]) 87) ⟨some ⟨k9,0,none⟩,5,5⟩ [⟨1,0,s1⟩,⟨1,2,s2⟩,⟨1,0,s3⟩,⟨1,2,s4⟩,⟨1,0,s5⟩]:=ZBN (rest:=[]) (by rw [List.append_nil]) rfl rfl;refine ZU (cd:=ZFB) (g:=Hp.emp) (s:=⟨some ⟨k9,0,none⟩,5,5⟩) (t:=⟨none,0,0⟩) (xs:=[⟨1,0,s1⟩,⟨1,2,s2⟩,⟨1,0,s3⟩,⟨1,2,s4⟩,⟨1,0,s5⟩]) (ys:=[]) o9 rfl own9 (by decide) ⟨rfl,rfl⟩ (λb o h=>by cases h) (by simp [ZAR]) λd10 p10 n10 m10 h10 o10 w10=>?_;rw [List.append_nil] at w10;refine ZH o10 λk11 h11 o11=>?_;refine ZLA (k:=14) (p:=⟨some ⟨k11,0,none⟩,1,1⟩) (ns:=[1]) (o11.get (i:=0) rfl) (Ze (by rfl) rfl) ?_;refine ZGo (who:=2) (seq:=2) (m:=ZVU) o11 ZK7 ZGr λs6 d6 h12 o12 w6=>?_;refine ZH (vs:=ZG ZFB [⟨1,2,s6⟩]) o12 λk13 h13 o13=>?_;refine ZU (cd:=ZFB) (g:=ob k13 (ZG ZFB [⟨1,2,s6⟩]) 87) (s:=⟨p10,n10,m10⟩) (t:=⟨some ⟨k13,0,none⟩,1,1⟩) (xs:=[⟨1,0,s1⟩,⟨1,2,s2⟩,⟨1,0,s3⟩,⟨1,2,s4⟩,⟨1,0,s5⟩]) (ys:=[⟨1,2,s6⟩]) (o13.pick [3,0,1] 4 (by decide) (by decide)) rfl w10 (by decide) (Ze rfl rfl) (o13.get (i:=0) rfl) (by simp [ZAR]) λd14 p14 n14 m14 h14 o14 w14=>?_;have w14:Own ZFB d14 ⟨p14,n14,m14⟩ (ZFH s1 s2 s3 s4 s5 s6):=w14;have o15:On h14 (d14::([d6,d5,d4,d3,d2,d1]++l)):=o14.pick [0,2,3,5,7,9,10] 11 (by decide) (by decide);refine hq ⟨p14,n14,m14⟩ d14 s1 s2 s3 s4 s5 s6 _ h14 o15 w14 ⟨rfl,λi x bs hx hb=>?_⟩;match i,hx,hb with
 | 0,hx,hb=>cases hx; cases hb; exact ⟨ZBd ZIf,d1,by simp,w1.row⟩
 | 1,hx,hb=>cases hx; cases hb; exact ⟨ZBd ZIf,d2,by simp,w2.row⟩
 | 2,hx,hb=>cases hx; cases hb; exact ⟨ZBd (ZC5 ZH8 ZJe),d3,by simp,w3.row⟩
 | 3,hx,hb=>cases hx; cases hb; exact ⟨ZBd (ZC5 ZH8 ZFJ),d4,by simp,w4.row⟩
 | 4,hx,hb=>cases hx; cases hb; exact ⟨ZBd (ZC5 ZK7 ZI7),d5,by simp,w5.row⟩
 | 5,hx,hb=>cases hx; cases hb; exact ⟨ZBd (ZC5 ZK7 ZGr),d6,by simp,w6.row⟩
 | i+6,hx,hb=>simp [ZFH] at hx
end
def ZLk:List Int->List Msg->List ZP->List Msg
 | _,out,[]=>out
 | seen,out,f::fs=>if f.Seq=0\/f.Seq∈seen then ZLk seen out fs else if f.Seq≠(out.length+1:Nat) then out else ZLk (f.Seq::seen) (out++[ZDZ f]) fs
theorem ZQZ (seen:List Int) (out:List Msg) (f:ZP) (fs:List ZP):ZLk seen out (f::fs)=if f.Seq=0\/f.Seq∈seen then ZLk seen out fs else if f.Seq≠(out.length+1:Nat) then out else ZLk (f.Seq::seen) (out++[ZDZ f]) fs:=rfl
theorem ZUY (seen:List Int) (out:List Msg):ZLk seen out []=out:=rfl
theorem ZNJ (n k:Int) (clk:Nat):∀ (L:List (Int×Bool×Nat)),(∀ e∈L,e.2.1=true)→ZP5 (c:=cB) false n (L++[(k,true,clk)])=(ZP5 (c:=cB) false n L||decide (n=k))
 | [],_=>by
   show (if n=k then true else false)=(false||decide (n=k))
   by_cases h:n=k<;>simp [h]
 | e::L,h=>by
   have ih:=ZNJ n k clk L λx hx=>h x (by simp [hx]);have he:=h e (by simp);show (if n=e.1 then e.2.1 else ZP5 (c:=cB) false n (L++[(k,true,clk)]))=((if n=e.1 then e.2.1 else ZP5 (c:=cB) false n L)||decide (n=k))
   by_cases hn:n=e.1
   .rw [if_pos hn,if_pos hn,he]; rfl
   .rw [if_neg hn,if_neg hn,ih]
theorem ZJT (f:ZP) (hw:wfF f):Zx (ZAG f)=([ZAf f],[],0):=by have:=ZGW [ZAf f] (λb hb=>by rw [List.mem_singleton] at hb; subst hb; exact ZCe hw);simpa [ZAG] using this
theorem ZVZ {f:ZP} (hw:wfF f):ZPD (ZAf f)=if okF f=true then (f,0) else (ZKv,2):=by
 cases h:okF f with
 | true=>rw [if_pos rfl]; exact ZGL (ZE5 hw h)
 | false=>
   rw [if_neg (by simp)];have:ZAf f=[]:=List.length_eq_zero_iff.1 (ZHI.2 h);rw [this];rfl
section
variable {h:Hp} {l:List Hp}
theorem ZMT {p:Sl} {g G:Hp} {ss:List Sl} {fs:List ZP} (o:On h l) (hg:g∈l) (hG:G∈l) (r:Row cSl g p ss) (rr:ZD3 G ss (fs.map ZAG)) (hw:∀ f∈fs,wfF f) (hl:fs.length≤100000)
 {Q:Sl->Hp->Prop} (hq:∀ s d h',On h' (d::l)->Own ZQ d s (fs.filter okF)->Q s h'):ZA TP 71 [Value.slice p.a p.len p.cap] cSl h Q:=by
 refine c71 ?_;unfold F71;have hpl:=r.1;have hsl:ss.length=fs.length:=by have:=ZC1.len rr; simpa using this
 refine ZSS o λpf c1 h1 o1 w1=>?_;refine Zb (λz h'=>∃ (j:Nat) (s:Sl) (c d:Hp),z=(s,(j:Int))/\j<=fs.length/\On h' (c::d::l)/\ZGb pf [] 0 c 278/\Own ZQ d s ((fs.take j).filter okF)) (λz=>fs.length-z.2.toNat)
  ⟨0,⟨none,0,0⟩,c1,Hp.emp,rfl,Nat.zero_le _,o1.emp.swap,w1,Own.nil _⟩ ?_
 rintro J z h2 again ⟨j,s,c,d,rfl,hj,o2,w2,wd2⟩
 dsimp only;refine ZJ (λhlt=>?_) λhge=>?_
 ·have hj':j<fs.length:=by omega
  have hjs:j<ss.length:=by omega
  have a0:ss[j]?=some ss[j]:=List.getElem?_eq_getElem hjs;have af:fs[j]?=some fs[j]:=List.getElem?_eq_getElem hj';have hwf:=hw _ (List.getElem_mem hj');have rj:Row (cI .u8) G ss[j] (ZAG fs[j]):=by obtain ⟨b,hb,rb⟩:=ZC1.get rr j _ a0;rw [List.getElem?_map,af] at hb;simp only [Option.map_some,Option.some.injEq] at hb;rw [hb]; exact rb
  have htk:(fs.take (j+1)).filter okF=(fs.take j).filter okF++[fs[j]].filter okF:=by rw [List.take_add_one,af,List.filter_append]; rfl
  generalize hs0:ss[j]=s0 at*;generalize hf0:fs[j]=f at*;rw [ZAQ (by omega)];refine ZL r (Int.natCast_nonneg j) (by omega) λq hq'=>ZO r (o2.mem (by simp [hg])) rfl hq' (i:=j) a0 (by rfl) ?_;have hwl:=ZCi hwf;refine ZKa (g:=G) (bs:=ZAG f) o2 w2 (by simp [hG]) rj (by simp [Zz]) (ZBd hwf) (by simp only [List.length_nil]; omega) (Nat.zero_le _) λs3 ss3 c3 r3 h3 o3 w3 ra3 rb3 cp3=>?_;rw [List.nil_append,ZJT f hwf] at w3 rb3 cp3;obtain ⟨s4,rfl,r4,hc4⟩:∃ s4,ss3=[s4]/\Row (cI .u8) r3 s4 (ZAf f)/\(ZAf f).length<=s4.cap:=by
   match ss3,rb3,cp3 with
   | [s4],⟨h1,_⟩,⟨h2,_⟩=>exact ⟨s4,rfl,h1,h2⟩
   | [],h1,_=>exact h1.elim
   | _::_::_,⟨_,h1⟩,_=>exact h1.elim
  have hl3:s3.len=1:=ra3.1;have hb80:=ZCe hwf;refine Zb (λz h'=>∃ (i:Nat) (s:Sl) (c d:Hp),z=(s,(i:Int))/\i<=1/\On h' (c::d::r3::l)/\ZGb pf [] 0 c 278/\Own ZQ d s (if i=0 then (fs.take j).filter okF else (fs.take (j+1)).filter okF)) (λz=>1-z.2.toNat)
   ⟨0,s,c3,d,rfl,Nat.zero_le _,o3.pick [0,2,1] 3 (by decide) (by decide),w3,by rw [if_pos rfl]; exact wd2⟩ ?_
  rintro J2 z h4 again2 ⟨i,s,c,d,rfl,hi,o4,w4,wd4⟩;dsimp only;refine ZJ (λhlt2=>?_) λhge2=>?_
  ·have hi0:i=0:=by omega
   subst hi0;rw [if_pos rfl] at wd4;rw [ZAQ (by omega)];refine ZN (λs h'=>∃ c d,On h' (c::d::r3::l)/\ZGb pf [] 0 c 278/\Own ZQ d s ((fs.take (j+1)).filter okF)) ?_ λJ3 hJ3=>?_
   .rintro s5 h5 ⟨c5,d5,o5,w5,wd5⟩;exact again2 _ _ ⟨1,s5,c5,d5,rfl,Nat.le_refl _,o5,w5,by rw [if_neg (by decide)]; exact wd5⟩ (by show 1-((0+1:Nat):Int).toNat<1-((0:Nat):Int).toNat; decide)
   .refine ZL ra3 (by decide) (by simp) λq hq'=>ZO ra3 (o4.mem (by simp)) rfl hq' (i:=0) rfl (by rfl) ?_;refine ZNP o4 (g:=r3) (by simp) r4 (ZDl f) hc4 (by omega) λh5 o5=>?_;rw [ZVZ hwf];by_cases hok:okF f=true
    .rw [if_pos hok];rw [List.filter_cons,if_pos hok,List.filter_nil] at htk;refine Zh rfl ?_;refine ZH (vs:=ZG ZQ [f]) o5 λk6 h6 o6=>?_;have hwl4:=wd4.1;refine ZU (cd:=ZQ) (g:=ob k6 (ZG ZQ [f]) 161) (s:=s) (t:=⟨some ⟨k6,0,none⟩,1,1⟩) (ys:=[f]) (o6.pick [2,0,1,3] 4 (by decide) (by decide)) rfl wd4 (by decide) (Ze rfl rfl) (o6.get (i:=0) rfl) ?_ λd7 p n m h7 o7 w7=>?_
     .have h1:=List.length_filter_le okF (fs.take j);rw [List.length_take] at h1;refine Nat.le_trans (Nat.mul_le_mul_right _ (show _<=200000 by rw [List.length_singleton]; omega)) (by decide)
     .exact hJ3 _ _ ⟨c,d7,o7.pick [2,0,3] 4 (by decide) (by decide),w4,by rw [htk]; exact w7⟩
    .rw [if_neg hok];rw [List.filter_cons,if_neg hok,List.filter_nil,List.append_nil] at htk;refine ZT rfl ?_;exact hJ3 _ _ ⟨c,d,o5,w4,by rw [htk]; exact wd4⟩
  .have hi1:i=1:=by omega
   subst hi1;rw [if_neg (by decide)] at wd4;exact again _ _ ⟨j+1,s,c,d,rfl,by omega,o4.pick [0,1] 3 (by decide) (by decide),w4,wd4⟩ (by show fs.length-((j+1:Nat):Int).toNat<fs.length-(j:Int).toNat; omega)
 .have hje:j=fs.length:=by omega
  subst hje;rw [List.take_length] at wd2;exact hq s d h2 (o2.pick [1] 2 (by decide) (by decide)) wd2
theorem ZU5 {p:Sl} {g:Hp} {fs:List ZP} (o:On h l) (hg:g∈l) (r:Row ZQ g p fs) (hl:fs.length≤100000)
 {Q:Sl->Hp->Prop} (hq:∀ s d h',On h' (d::l)->Own ZAn d s (ZLk [] [] fs)->Q s h'):ZA TP 72 [Value.slice p.a p.len p.cap] cSl h Q:=by
 refine c72 ?_;unfold F72;have hpl:=r.1;intro k1 hk1;have o1:On _ (Hp.one k1 (ZMm cB .i64 [] 0)::l):=o.new hk1 _;refine ZN (λs h'=>∃ d,On h' (d::l)/\Own ZAn d s (ZLk [] [] fs)) ?_ λJ1 hJ1=>?_
 .rintro s h' ⟨d,o',w'⟩;exact hq s d h' o' w'
 refine Zb (λz h'=>∃ (j:Nat) (s:Sl) (L:List (Int×Bool×Nat)) (clk:Nat) (d:Hp) (seen:List Int) (out:List Msg),z=(s,(j:Int))/\j<=fs.length/\On h' (Hp.one k1 (ZMm cB .i64 L clk)::d::l)/\Own ZAn d s out/\
   (∀ n,ZP5 (c:=cB) false n L=decide (n∈seen))/\(∀ e∈L,e.1∈seen/\e.2.1=true)/\ZLk [] [] fs=ZLk seen out (fs.drop j)/\out.length<=j) (λz=>fs.length-z.2.toNat)
  ⟨0,⟨none,0,0⟩,[],0,Hp.emp,[],[],rfl,Nat.zero_le _,o1.emp.swap,Own.nil _,(λn=>by simp [ZP5]),(λe he=>by cases he),rfl,Nat.le_refl _⟩ ?_
 rintro J z h2 again ⟨j,s,L,clk,d,seen,out,rfl,hj,o2,w2,hget,hkeys,happ,hol⟩
 dsimp only;have hsl:=w2.1;have hmap:h2 k1=some (ZMm cB .i64 L clk):=o2.get (i:=0) rfl k1 _ (by simp [Hp.one]);refine ZJ (λhlt=>?_) λhge=>?_
 ·have hj':j<fs.length:=by omega
  have a0:fs[j]?=some fs[j]:=List.getElem?_eq_getElem hj';have hdr:fs.drop j=fs[j]::fs.drop (j+1):=List.drop_eq_getElem_cons hj';generalize fs[j]=f at*;rw [hdr] at happ;rw [ZQZ] at happ;rw [ZAQ (by omega),ZAQ (by omega)];refine ZN (λs h'=>∃ (L:List (Int×Bool×Nat)) (clk:Nat) (d:Hp) (seen:List Int) (out:List Msg),On h' (Hp.one k1 (ZMm cB .i64 L clk)::d::l)/\Own ZAn d s out/\
   (∀ n,ZP5 (c:=cB) false n L=decide (n∈seen))/\(∀ e∈L,e.1∈seen/\e.2.1=true)/\ZLk [] [] fs=ZLk seen out (fs.drop (j+1))/\out.length<=j+1) ?_ λJ3 hJ3=>?_
  .rintro s3 h3 ⟨L3,clk3,d3,seen3,out3,o3,w3,hg3,hk3,ha3,hl3⟩;exact again _ _ ⟨j+1,s3,L3,clk3,d3,seen3,out3,rfl,by omega,o3,w3,hg3,hk3,ha3,hl3⟩ (by show fs.length-((j+1:Nat):Int).toNat<fs.length-(j:Int).toNat; omega)
  refine ZL r (Int.natCast_nonneg j) (by omega) λq hq'=>ZO r (o2.mem (by simp [hg])) rfl hq' (i:=j) a0 (by rfl) ?_;refine ZN (λt h'=>h'=h2/\t=decide (f.Seq=0\/f.Seq∈seen)) ?_ λJ4 hJ4=>?_
  ·rintro t h3 ⟨rfl,rfl⟩;refine ZJ (fun hs=>?_) fun hs=>?_
   .rw [if_pos hs] at happ;exact hJ3 _ _ ⟨L,clk,d,seen,out,o2,w2,hget,hkeys,happ,by omega⟩
   ·rw [if_neg hs] at happ;refine ⟨k1,L,clk,rfl,hmap,fun e he hne=>hs (.inr (by rw [hne]; exact (hkeys e he).1)),?_⟩;have o4:=o2.upd (b:=k1) (ob:=ZMm cB .i64 L clk) (by simp [Hp.one]) (ZMm cB .i64 (L++[(f.Seq,true,clk)]) (clk+1));rw [ZH3] at o4;refine ZD (fun e=>?_) fun e=>?_
    .have e:f.Seq≠(out.length+1:Nat):=by
      have:f.Seq≠(s.len+1:Nat):=by simpa using e
      rwa [hsl] at this
     rw [if_pos e] at happ;exact hJ1 _ _ ⟨d,o4.pick [1] 2 (by decide) (by decide),by rw [happ]; exact w2⟩
    ·have e:f.Seq=(out.length+1:Nat):=by
      have:f.Seq=(s.len+1:Nat):=by simpa using e
      rwa [hsl] at this
     rw [if_neg (λh=>h e)] at happ;refine ZH (vs:=ZG ZAn [ZDZ f]) o4 λk6 h6 o6=>?_;refine ZU (cd:=ZAn) (g:=ob k6 (ZG ZAn [ZDZ f]) 59) (s:=s) (t:=⟨some ⟨k6,0,none⟩,1,1⟩) (ys:=[ZDZ f]) (o6.pick [2,0,1] 3 (by decide) (by decide)) rfl w2 (by decide) (Ze rfl rfl) (o6.get (i:=0) rfl) ?_ λd7 p n m h7 o7 w7=>?_
     .refine Nat.le_trans (Nat.mul_le_mul_right _ (show _<=200000 by rw [List.length_singleton]; omega)) (by decide)
     .refine hJ3 _ _ ⟨L++[(f.Seq,true,clk)],clk+1,d7,f.Seq::seen,out++[ZDZ f],o7.pick [2,0] 3 (by decide) (by decide),w7,λn=>?_,λe he=>?_,happ,by rw [List.length_append,List.length_singleton]; omega⟩
      .rw [ZNJ _ _ _ _ (λe he=>(hkeys e he).2),hget];by_cases h1:n∈seen<;>by_cases h2:n=f.Seq<;>simp [h1,h2]
      .rcases List.mem_append.1 he with he|he
       .exact ⟨List.mem_cons_of_mem _ (hkeys e he).1,(hkeys e he).2⟩
       .simp only [List.mem_singleton] at he;subst he; simp
  .refine ZD (λe=>hJ4 _ _ ⟨rfl,?_⟩) λe=>⟨k1,L,clk,rfl,hmap,hJ4 _ _ ⟨rfl,?_⟩⟩
   .have e:f.Seq=0:=by simpa using e
    simp [e]
   .have e:f.Seq≠0:=by simpa using e
    rw [hget];simp [e]
 .have hje:j=fs.length:=by omega
  subst hje;rw [List.drop_length,ZUY] at happ;exact hJ1 _ _ ⟨d,o2.pick [1] 2 (by decide) (by decide),by rw [happ]; exact w2⟩
end
def ZJP (R:List (List Int)):List ZP:=R.flatMap λb=>(Zx b).1.filterMap ZEM
theorem ZEz:∀ (fs:List ZP),(∀ f∈fs,wfF f)→ZJP (fs.map ZAG)=fs.filter okF
 | [],_=>rfl
 | f::fs,h=>by
   have hf:=h f (by simp);have ih:=ZEz fs λx hx=>h x (by simp [hx]);unfold ZJP at ih ⊢;rw [List.map_cons,List.flatMap_cons,ih,ZJT f hf,List.filter_cons];cases e:okF f with
   | true=>
     have hr:=ZE5 hf e;simp only [List.filterMap_cons,hr,List.filterMap_nil,if_true];rfl
   | false=>
     have hb:ZAf f=[]:=List.length_eq_zero_iff.1 (ZHI.2 e);have hr:ZEM []=none:=rfl;simp only [hb,List.filterMap_cons,hr,List.filterMap_nil,Bool.false_eq_true,if_false];rfl
def clr (x:LS):LS:={x with out:=[]}
def ZEk (T:VS) (j:Nat):VS:=⟨T.d,(T.ls.take j).map clr++T.ls.drop j⟩
def ZP6 (a:List (List Int)) (x:LS):List (List Int):=a++x.out
def ZH9 (R:List (List (List Int))) (T:VS) (j:Nat):List (List (List Int)):=(List.zipWith ZP6 R T.ls).take j++R.drop j
inductive ZTW:VS->List (List (List Int))->List (Int×Int×List Int)->VS->List (List (List Int))->Prop
 | nil {S:VS} {R:List (List (List Int))}:ZTW S R [] S R
 | cons {S T U:VS} {R R':List (List (List Int))} {a:Int×Int×List Int} {la:List (Int×Int×List Int)} {b:Bool}:DoR S a.1 a.2.1 a.2.2 T b->ZTW ⟨T.d,T.ls.map clr⟩ (List.zipWith ZP6 R T.ls) la U R'->ZTW S R (a::la) U R'
theorem ZYY {A B:Nat} {x:LS} (h:LOk A B x):LOk A B (clr x):=⟨h.held,h.hl,h.wf,h.al,h.beat,h.sent,h.heard,Nat.zero_le _,ZDc.nil⟩
theorem ZRH:∀ ls:List LS,pot (ls.map clr)=pot ls
 | []=>rfl
 | x::ls=>by have:=ZRH ls;unfold pot at*;simp only [List.map_cons,List.sum_cons];rw [this];rfl
theorem ZMH.clr {n t:Nat} {S:VS} (h:ZMH n t S):ZMH n t ⟨S.d,S.ls.map clr⟩:=by obtain ⟨N,ok,hp⟩:=h;refine ⟨N,⟨ok.w,ok.f,λx hx=>?_,by dsimp only; rw [List.length_map]; exact ok.n⟩,by dsimp only; rw [ZRH]; exact hp⟩;obtain ⟨y,hy,rfl⟩:=List.mem_map.1 hx;exact ZYY (ok.l y hy)
theorem ZQ5 {T:VS} {j:Nat} (hj:j<=T.ls.length):(ZEk T j).ls.length=T.ls.length:=by unfold ZEk;simp only [List.length_append,List.length_map,List.length_take,List.length_drop];omega
theorem ZTd {T:VS} {j:Nat} (hj:j<T.ls.length):(ZEk T j).ls[j]?=some T.ls[j]:=by unfold ZEk;dsimp only;rw [List.getElem?_append_right (by simp; omega)];simp only [List.length_map,List.length_take,List.getElem?_drop];rw [show j+(j-min j T.ls.length)=j by omega];exact List.getElem?_eq_getElem hj
theorem ZCN {α:Type} {l:List α} {j:Nat} {x:α} (h:l[j]?=some x):l.take (j+1)=l.take j++[x]:=by rw [List.take_add_one,h]; rfl
theorem ZRp {T:VS} {j:Nat} (hj:j<T.ls.length):(ZEk T j).ls.set j (clr T.ls[j])=(ZEk T (j+1)).ls:=by
 unfold ZEk;dsimp only;have h1:((T.ls.take j).map clr).length=j:=by simp; omega
 rw [List.drop_eq_getElem_cons hj,List.set_append_right _ _ (by omega),h1,Nat.sub_self,List.set_cons_zero,ZCN (List.getElem?_eq_getElem hj),List.map_append,List.append_assoc];rfl
theorem ZZY {R:List (List (List Int))} {ls:List LS} {j:Nat} {a:List (List Int)} {x:LS} (h1:R[j]?=some a) (h2:ls[j]?=some x):(List.zipWith ZP6 R ls)[j]?=some (ZP6 a x):=by rw [List.getElem?_zipWith,h1,h2]
theorem ZVn {R:List (List (List Int))} {T:VS} {j:Nat} (hl:R.length=T.ls.length) (hj:j<R.length):(ZH9 R T j)[j]?=some R[j]:=by unfold ZH9;rw [List.getElem?_append_right (by simp; omega)];simp only [List.length_take,List.length_zipWith,List.getElem?_drop];rw [show j+(j-min j (min R.length T.ls.length))=j by omega];exact List.getElem?_eq_getElem hj
theorem ZQ0 {R:List (List (List Int))} {T:VS} {j:Nat} (hl:R.length=T.ls.length) (hj:j<R.length) (hj2:j<T.ls.length):(ZH9 R T j).set j (ZP6 R[j] T.ls[j])=ZH9 R T (j+1):=by
 unfold ZH9;have h1:((List.zipWith ZP6 R T.ls).take j).length=j:=by simp; omega
 rw [List.drop_eq_getElem_cons hj,List.set_append_right _ _ (by omega),h1,Nat.sub_self,List.set_cons_zero,ZCN (ZZY (List.getElem?_eq_getElem hj) (List.getElem?_eq_getElem hj2)),List.append_assoc];rfl
section
variable {v:VK} {S:VS} {h:Hp} {l:List Hp}
theorem ZBY.open (a:ZBY v S h l):∃ V,On h (V::l)/\∀ h' l',On h' (V::l')->ZBY v S h' l':=by obtain ⟨dL,D,ps,cs,o,w⟩:=a;have o1:On h ((Go.Eng.ob v.b (ZB1 v) 152::dL::D::cs)++l):=o;obtain ⟨o2,o3⟩:=On.joined o1;exact ⟨_,o2,λh' l' o'=>⟨dL,D,ps,cs,o'.split o3,w⟩⟩
def ZG7 (sls:List Sl) (ds:List Hp) (G:Hp) (R:List (List (List Int))):Prop:=
 sls.length=R.length/\ds.length=R.length/\∀ (i:Nat) (s:Sl) (d:Hp) (r:List (List Int)),sls[i]?=some s->ds[i]?=some d->R[i]?=some r->∃ ss,Own cSl d s ss/\ZD3 G ss r
theorem ZC1.append {α β:Type} {R:α->β->Prop}:∀ {a:List α} {b:List β} {c:List α} {d:List β},ZC1 R a b->ZC1 R c d->ZC1 R (a++c) (b++d)
 | [],[],c,d,_,h=>h
 | x::a,y::b,c,d,⟨h1,h2⟩,h=>⟨h1,ZC1.append h2 h⟩
theorem ZG7.set {sls:List Sl} {ds:List Hp} {G G':Hp} {R:List (List (List Int))} (w:ZG7 sls ds G R) (hG:G.sub G') {j:Nat} {s:Sl} {d:Hp} {r:List (List Int)} {ss:List Sl} (hj:j<R.length) (hs:Own cSl d s ss) (hr:ZD3 G' ss r):ZG7 (sls.set j s) (ds.set j d) G' (R.set j r):=by
 obtain ⟨h1,h2,h3⟩:=w;refine ⟨by simpa using h1,by simpa using h2,λi s' d' r' e1 e2 e3=>?_⟩;by_cases hij:j=i
 .subst hij;rw [List.getElem?_set_self (by omega)] at e1 e2 e3;cases e1; cases e2; cases e3;exact ⟨ss,hs,hr⟩
 .rw [List.getElem?_set_ne hij] at e1 e2 e3;obtain ⟨ss',w1,w2⟩:=h3 i s' d' r' e1 e2 e3;exact ⟨ss',w1,w2.sub hG⟩
theorem ZXd {n:Nat} {dK G DS:Hp} {k1:Nat} {sls:List Sl} {ds:List Hp} {R:List (List (List Int))} {W:Hp→Prop} (hn8:n≤8) (hSl:S.ls.length=n) (hRl:R.length=n) (a:ZBY v S h (dK::G::DS::l)) (wK:Own cSl dK ⟨some ⟨k1,0,none⟩,n,n⟩ sls) (oD:On DS ds) (ra:ZG7 sls ds G R)
 (ho:∀ x∈S.ls,x.out.length<=256) (hr:∀ r∈R,r.length<=100000)
 (hW:∀ dK' G' DS' sls' ds' h',ZBY v ⟨S.d,S.ls.map clr⟩ h' (dK'::G'::DS'::l)->Own cSl dK' ⟨some ⟨k1,0,none⟩,n,n⟩ sls'->On DS' ds'->ZG7 sls' ds' G' (List.zipWith ZP6 R S.ls)->W h'):
 Zj (0:Int) h fun J2 n2 h5=>
   ZB (decide (n2<(n:Int)))
    (Zl (some {block:=k1,off:=0}) n n2 fun a2=>
      ZC cSl (a2.add (n2.toNat*1)) h5 fun s1=>
         ZA TP 70 [Value.pointer v.p,Value.int IntKind.i64 n2] cSl h5 fun s2 h6=>
           (h6.rds (a2.add (n2.toNat*1)) [Value.slice s1.a s1.len s1.cap]∧True)∧
             ZX cSl 85 24 s1.a s1.len s1.cap s2.a s2.len h6 λp2 k2 k3 h7=>
              Zl (some {block:=k1,off:=0}) n n2 λa3=>ZV cSl (a3.add (n2.toNat*1)) {a:=p2,len:=k2,cap:=k3} h7 λh8=>J2 (IntKind.i64.wrap (n2+1)) h8)
    (W h5):=by
 have hkl:=wK.1;refine Zb (λz h'=>∃ (j:Nat) (dK G DS:Hp) (sls:List Sl) (ds:List Hp),z=(j:Int)/\j<=n/\ZBY v (ZEk S j) h' (dK::G::DS::l)/\Own cSl dK ⟨some ⟨k1,0,none⟩,n,n⟩ sls/\On DS ds/\ZG7 sls ds G (ZH9 R S j)) (λz=>n-z.toNat)
  ⟨0,dK,G,DS,sls,ds,rfl,Nat.zero_le _,a,wK,oD,ra⟩ ?_
 rintro J z h2 again ⟨j,dK,G,DS,sls,ds,rfl,hj,a2,wK,oD,ra⟩
 have hkl:=wK.1;refine ZJ (λhlt=>?_) λhge=>?_
 .have hj':j<n:=by omega
  have hjS:j<S.ls.length:=by omega
  have hjR:j<R.length:=by omega
  have hrl:(ZH9 R S j).length=n:=by unfold ZH9; simp; omega
  have hsls:sls.length=n:=by rw [ra.1,hrl]
  have a0:sls[j]?=some sls[j]:=List.getElem?_eq_getElem (by omega);have hdl:ds.length=n:=by rw [ra.2.1,hrl]
  have hdj:ds[j]?=some ds[j]:=List.getElem?_eq_getElem (by omega);have hrj:=ZVn (j:=j) (T:=S) (by omega) hjR;obtain ⟨ssj,wj,rj⟩:=ra.2.2 j _ _ _ a0 hdj hrj;generalize hs0:sls[j]=s0 at*;have hat:=ZTd hjS;have hol:=ZQ5 (T:=S) (j:=j) (by omega);have hset:=ZRp hjS;have hx0:(ZEk S j).ls[j]'(by omega)=S.ls[j]:=by have h1:=List.getElem?_eq_getElem (l:=(ZEk S j).ls) (i:=j) (by omega);rw [hat] at h1;exact (Option.some.inj h1).symm
  have hxo:=ho _ (List.getElem_mem hjS);have hRj:=hr _ (List.getElem_mem hjR);rw [ZAQ (by omega)];refine ZL wK.row (Int.natCast_nonneg j) (by omega) λq hq'=>ZO wK.row (a2.sub (by simp)) rfl hq' (i:=j) a0 (by rfl) ?_;refine ZW8 (n:=j) a2 (by omega) (by rw [hx0]; omega) λs2 ss r h6 a6 r6 rr6=>?_;rw [hx0] at a6 rr6;have a6:ZBY v (ZEk S (j+1)) h6 (r::dK::G::DS::l):=by
   have e:(⟨(ZEk S j).d,(ZEk S j).ls.set j (clr S.ls[j])⟩:VS)=ZEk S (j+1):=by rw [hset]; rfl
   rw [<-e]; exact a6
  cases hq';refine ⟨⟨ZWo wK.row (a6.sub (by simp)) rfl rfl (i:=j) a0 (by rfl),trivial⟩,?_⟩;obtain ⟨V,o6,clV⟩:=a6.open;have o7:On h6 (DS::V::r::dK::G::l):=o6.perm (by
   refine List.Perm.trans ?_ (List.perm_middle (a:=DS) (l₁:=[V,r,dK,G]) (l₂:=l));exact List.Perm.refl _)
  obtain ⟨R7,o8,_,cl8⟩:=ZP9 o7 oD hdj;have hsl2:=r6.1;have hss:=ZC1.len rr6;have hwjl:=ZC1.len rj;refine ZU (cd:=cSl) (g:=r) (s:=s0) (t:=s2) (xs:=ssj) (ys:=ss) o8 rfl wj (by decide) r6 (o8.mem (by simp)) ?_ λd9 p9 n9 m9 h9 o9 w9=>?_
  .exact Nat.le_trans (Nat.mul_le_mul_right _ (show _<=200000 by omega)) (by decide)
  .obtain ⟨DS',o10,oD'⟩:=cl8 h9 d9 _ o9;have o11:On h9 (dK::V::r::G::DS'::l):=o10.pick [3,1,2,4,0] 5 (by decide) (by decide);refine ZL wK.row (Int.natCast_nonneg j) (by omega) λq hq2=>?_;refine ZBy o11 rfl wK hq2 (i:=j) (by omega) rfl λdK' h12 o12 wK'=>?_;have o13:On h12 ([r,G]++(V::dK'::DS'::l)):=o12.pick [2,3,1,0,4] 5 (by decide) (by decide);obtain ⟨o14,o15⟩:=On.joined o13;have a15:=clV h12 _ (o14.swap);refine again _ _ ⟨j+1,dK',ZJb [r,G],DS',sls.set j ⟨p9,n9,m9⟩,ds.set j d9,rfl,by omega,a15.perm (List.Perm.swap _ _ _),wK',oD',?_⟩ (by omega);rw [<-ZQ0 (by omega) hjR hjS];exact ra.set (o15.mem (by simp)) (by omega) w9 (ZC1.append (rj.sub (o15.mem (by simp))) (rr6.sub (o15.mem (by simp))))
 .have hje:j=n:=by omega
  subst hje;have e1:ZEk S S.ls.length=⟨S.d,S.ls.map clr⟩:=by unfold ZEk; rw [List.take_length,List.drop_length,List.append_nil]
  have e2:ZH9 R S R.length=List.zipWith ZP6 R S.ls:=by unfold ZH9;rw [List.drop_length,List.append_nil,List.take_of_length_le (by simp; omega)]
  rw [<-hSl,e1] at a2;rw [<-hRl,e2] at ra;exact hW dK G DS sls ds h2 a2 wK oD ra
end
theorem ZN8:∀ n:Nat,Z3 n [Value.slice none 0 0]=ZG cSl (List.replicate n ⟨none,0,0⟩)
 | 0=>rfl
 | n+1=>by show Value.slice none 0 0::Z3 n [Value.slice none 0 0]=Value.slice none 0 0::ZG cSl (List.replicate n ⟨none,0,0⟩);rw [ZN8 n]
theorem ZZW {k n:Nat} {e:TypeId}:Own cSl (ob k (Z3 n [Value.slice none 0 0]) e) ⟨some ⟨k,0,none⟩,n,n⟩ (List.replicate n ⟨none,0,0⟩):=
 ZBN (rest:=[]) (by rw [ZN8,List.append_nil]) (by simp) (by simp)
theorem On.emps {h:Hp} {l:List Hp} (o:On h l):∀ n:Nat,On h (List.replicate n Hp.emp++l)
 | 0=>o
 | n+1=>(On.emps o n).emp
theorem ZDc.append {a b:List (List Int)} (h:ZDc a) (g:ZDc b):ZDc (a++b):=by obtain ⟨fs,h1,rfl⟩:=h;obtain ⟨gs,g1,rfl⟩:=g;exact ⟨fs++gs,λf hf=>(List.mem_append.1 hf).elim (h1 f) (g1 f),by rw [List.map_append]⟩
theorem ZXj {R:List (List (List Int))} {ls:List LS} {r:List (List Int)} (h:r∈List.zipWith ZP6 R ls):∃ a∈R,∃ x∈ls,r=ZP6 a x:=by
 obtain ⟨i,hi⟩:=List.getElem?_of_mem h;rw [List.getElem?_zipWith] at hi;cases h1:R[i]? with
 | none=>rw [h1] at hi; cases hi
 | some a=>
   cases h2:ls[i]? with
   | none=>rw [h1,h2] at hi; cases hi
   | some x=>
     rw [h1,h2] at hi;cases hi;exact ⟨a,List.mem_of_getElem? h1,x,List.mem_of_getElem? h2,rfl⟩
def ZIG (xs:List Act) (bss:List (List Int)):List (Int×Int×List Int):=List.zipWith (λx b=>(x.Kind,x.Who,b)) xs bss
theorem ZQ2 {α:Type} {l:List α} {i:Nat} {a:α} (h:l[i]?=some a):l.drop i=a::l.drop (i+1):=by obtain ⟨h1,rfl⟩:=List.getElem?_eq_some_iff.1 h;exact List.drop_eq_getElem_cons h1
theorem ZUR {xs:List Act} {bss:List (List Int)} {i:Nat} {x:Act} {b:List Int} (hx:xs[i]?=some x) (hb:bss[i]?=some b):(ZIG xs bss)[i]?=some (x.Kind,x.Who,b):=by unfold ZIG;rw [List.getElem?_zipWith,hx,hb]
def ZOR (bss:List (List Int)):Nat:=(bss.map List.length).sum
theorem ZTK {bss:List (List Int)} {i:Nat} {b:List Int} (h:bss[i]?=some b):ZOR (bss.take (i+1))=ZOR (bss.take i)+b.length:=by unfold ZOR;rw [ZCN h,List.map_append,List.sum_append];simp
theorem ZSw:∀ (bss:List (List Int)) (i:Nat),ZOR (bss.take i)<=ZOR bss
 | [],i=>by simp [ZOR]
 | b::bss,0=>by simp [ZOR]
 | b::bss,i+1=>by have:=ZSw bss i;unfold ZOR at*;simp only [List.take_succ_cons,List.map_cons,List.sum_cons];omega
def ZHE (R:List (List (List Int))):List Nat:=R.map λr=>(ZLk [] [] (ZJP r)).length
section
variable {h:Hp} {l:List Hp}
theorem ZZn {sb sp pa:Sl} {gb gp ga:Hp} {bs:List Bond} {ps:List ZAa} {look beat:Int} {xs:List Act} {bss:List (List Int)} (o:On h l) (hb:gb∈l) (rb:Row ZAB gb sb bs) (hp:gp∈l) (rp:Row Z2 gp sp ps) (hr:ZC8 bs ps look beat=true)
 (hga:ga∈l) (ra:Row ZFB ga pa xs) (ai:ZKc l xs bss) (hn:xs.length<=10) (ht:ZOR bss<=6500)
 {Q:ZBz->Hp->Prop} (hq:∀ v S R sn tk tss dT h',ZBY v S h' (dT::l)->Own cSl dT tk tss->tss.map Sl.len=ZHE R->ZTW (ZJI bs ps look beat) (List.replicate ps.length []) (ZIG xs bss) S R->ZMH xs.length (ZOR bss) S->S.ls.length=ps.length->R.length=ps.length->Q ⟨sn,tk,v.p⟩ h'):
 ZA TP 31 [ZAq.enc ⟨sb,sp,look,beat⟩,Value.slice pa.a pa.len pa.cap] ZA5 h Q:=by
 refine c31 (p0:=⟨sb,sp,look,beat⟩) (p1:=pa) ?_;unfold F31;have hpl:ps.length<=8:=(ZFR hr).pl;have hlp:=rp.1;have hla:=ra.1;refine ZX3 o hb rb hp rp hr λv h1 a1=>?_;refine ZT rfl ?_;dsimp only;refine ⟨by omega,by omega,by omega,by omega,?_⟩;refine a1.new λk1 h2 a2=>?_;have en:((sp.len:Int)).toNat=ps.length:=by omega
 rw [en] at a2 ⊢;obtain ⟨V,o3,clV⟩:=a2.open;have o4:On h2 (List.replicate ps.length Hp.emp++(V::Hp.emp::ob k1 (Z3 ps.length [Value.slice none 0 0]) 163::l)):=On.emps (o3.emp.swap) _;obtain ⟨o5,oDS⟩:=On.joined o4;have a5:ZBY v (ZJI bs ps look beat) h2 (ob k1 (Z3 ps.length [Value.slice none 0 0]) 163::Hp.emp::ZJb (List.replicate ps.length Hp.emp)::l):=clV _ _ (o5.pick [1,3,2,0] 4 (by decide) (by decide));have hls0:(ZJI bs ps look beat).ls.length=ps.length:=by show (List.replicate _ _).length=_; rw [List.length_replicate]
 have hacts:∀ i:Nat,i<xs.length->∃ (b:List Int),bss[i]?=some b/\(ZIG xs bss).drop i=((xs[i]?.getD ⟨0,0,⟨none,0,0⟩⟩).Kind,(xs[i]?.getD ⟨0,0,⟨none,0,0⟩⟩).Who,b)::(ZIG xs bss).drop (i+1):=λi hi=>by
  have hi2:i<bss.length:=by rw [<-ai.1]; exact hi
  refine ⟨bss[i],List.getElem?_eq_getElem hi2,?_⟩;rw [List.getElem?_eq_getElem hi];exact ZQ2 (ZUR (List.getElem?_eq_getElem hi) (List.getElem?_eq_getElem hi2))
 refine Zb (λz h'=>∃ (i:Nat) (S:VS) (R:List (List (List Int))) (dK G DS:Hp) (sls:List Sl) (ds:List Hp),z=(i:Int)/\i<=xs.length/\ZBY v S h' (dK::G::DS::l)/\Own cSl dK ⟨some ⟨k1,0,none⟩,ps.length,ps.length⟩ sls/\On DS ds/\ZG7 sls ds G R/\
  ZMH i (ZOR (bss.take i)) S/\S.ls.length=ps.length/\R.length=ps.length/\(∀ r∈R,ZDc r/\r.length<=256*i)/\(∀ S' R',ZTW S R ((ZIG xs bss).drop i) S' R'->ZTW (ZJI bs ps look beat) (List.replicate ps.length []) (ZIG xs bss) S' R')) (λz=>xs.length-z.toNat)
  ⟨0,ZJI bs ps look beat,List.replicate ps.length [],_,Hp.emp,_,_,_,rfl,Nat.zero_le _,a5,ZZW,oDS,?_,⟨0,ZVM hr,?_⟩,hls0,List.length_replicate,?_,λS' R' hR=>hR⟩ ?_
 .refine ⟨by simp,by simp,λi s d r e1 e2 e3=>?_⟩;have e1:=List.eq_of_mem_replicate (List.mem_of_getElem? e1);have e2:=List.eq_of_mem_replicate (List.mem_of_getElem? e2);have e3:=List.eq_of_mem_replicate (List.mem_of_getElem? e3);subst e1; subst e2; subst e3;exact ⟨[],Own.nil _,trivial⟩
 ·have:∀ n:Nat,pot (List.replicate n (ZRG beat))=0:=fun n=>by
   induction n with
   | zero=>rfl
   | succ n ih=>
     unfold pot at*;rw [List.replicate_succ,List.map_cons,List.sum_cons,ih];rfl
  show 0+pot (List.replicate ps.length (ZRG beat))<=_;rw [this];exact Nat.zero_le _
 .intro r hr;have:=List.eq_of_mem_replicate hr;subst this;exact ⟨ZDc.nil,Nat.zero_le _⟩
 rintro J1 z h6 again ⟨i,S,R,dK,G,DS,sls,ds,rfl,hi,a6,wK,oD,rw6,iv,hSl,hRl,hRo,hrun⟩
 refine ZJ (λhlt=>?_) λhge=>?_
 .have hi':i<xs.length:=by omega
  have ax:xs[i]?=some xs[i]:=List.getElem?_eq_getElem hi';obtain ⟨b,hbb,hdrop⟩:=hacts i hi';rw [ax,Option.getD_some] at hdrop;obtain ⟨hby,gx,hgx,rx⟩:=ai.2 i _ b ax hbb;have hlt2:=ZTK hbb;have hle:=ZSw bss (i+1);generalize xs[i]=x at*;rw [ZAQ (by omega)];refine ZL ra (Int.natCast_nonneg i) (by omega) λq hq'=>ZO ra (a6.sub (by simp [hga])) rfl hq' (i:=i) ax (by rfl) ?_;refine ZYX (n:=i) (t:=ZOR (bss.take i)) (p1:=x) (g:=gx) (bs:=b) a6 (by simp [hgx]) rx hby iv (by omega) (by omega) λT h7 bb a7 dr iv7 hl7=>?_;have hout:∀ y∈T.ls,y.out.length<=256/\ZDc y.out:=by obtain ⟨N,ok,_⟩:=iv7;exact λy hy=>⟨(ok.l y hy).out,(ok.l y hy).outs⟩
  refine ZXd (n:=ps.length) (R:=R) hpl (hl7.trans hSl) hRl a7 wK oD rw6 (λy hy=>(hout y hy).1) (λr hr=>by have:=(hRo r hr).2; omega) λdK' G' DS' sls' ds' h8 a8 wK' oD' rw8=>?_;refine again _ _ ⟨i+1,_,_,dK',G',DS',sls',ds',rfl,by omega,a8,wK',oD',rw8,?_,by dsimp only; rw [List.length_map]; exact hl7.trans hSl,by rw [List.length_zipWith,hl7,hSl,hRl,Nat.min_self],λr hr=>?_,λS' R' hR=>hrun S' R' ?_⟩ (by omega)
  .rw [hlt2];exact iv7.clr
  .obtain ⟨a0,ha0,y,hy,rfl⟩:=ZXj hr;have h1:=hRo a0 ha0;have h2:=hout y hy;refine ⟨h1.1.append h2.2,?_⟩;show (a0++y.out).length<=_;rw [List.length_append];omega
  .rw [hdrop];exact ZTW.cons dr hR
 ·have hie:i=xs.length:=by omega
  subst hie;have hbl:bss.take xs.length=bss:=by rw [ai.1,List.take_length]
  rw [hbl] at iv;have hrun:=hrun S R (by
   rw [List.drop_of_length_le (by unfold ZIG; rw [List.length_zipWith]; omega)];exact ZTW.nil)
  have hsl:sls.length=ps.length:=by rw [rw6.1,hRl]
  have hdl:ds.length=ps.length:=by rw [rw6.2.1,hRl]
  obtain ⟨V6,o6,clV6⟩:=a6.open;have o7:On h6 (Hp.emp::Hp.emp::V6::dK::G::DS::l):=o6.emp.emp;refine Zb (λz h'=>∃ (j:Nat) (sn tk:Sl) (dSn dT:Hp) (sns tss:List Sl),z=(⟨sn,tk,v.p⟩,(j:Int))/\j<=ps.length/\On h' (dSn::dT::V6::dK::G::DS::l)/\Own cSl dSn sn sns/\Own cSl dT tk tss/\sns.length=j/\tss.map Sl.len=ZHE (R.take j)) (λz=>ps.length-z.2.toNat)
   ⟨0,⟨none,0,0⟩,⟨none,0,0⟩,Hp.emp,Hp.emp,[],[],rfl,Nat.zero_le _,o7,Own.nil _,Own.nil _,rfl,rfl⟩ ?_
  rintro J3 z h8 again ⟨j,sn,tk,dSn,dT,sns,tss,rfl,hj,o8,wS,wT,hsn,hts⟩
  dsimp only;refine ZJ (λhlt2=>?_) λhge2=>?_
  .have hj':j<ps.length:=by omega
   have a0:sls[j]?=some sls[j]:=List.getElem?_eq_getElem (by omega);have hdj:ds[j]?=some ds[j]:=List.getElem?_eq_getElem (by omega);have hRj:R[j]?=some R[j]:=List.getElem?_eq_getElem (by omega);obtain ⟨ss,wss,rss⟩:=rw6.2.2 j _ _ _ a0 hdj hRj;obtain ⟨⟨fs,hfs,hfe⟩,hfl⟩:=hRo _ (List.getElem_mem (by omega:j<R.length));have hfe:R[j]=fs.map ZAG:=hfe;have hdsub:(ds[j]).sub DS:=oD.2 _ (List.getElem_mem (by omega));have htk:=ZCN hRj;have hfv:=ZEz fs hfs;rw [<-hfe] at hfv;have hfsl:fs.length<=2560:=by
    have:R[j].length=fs.length:=by rw [hfe,List.length_map]
    omega
   rw [hfe] at rss;generalize R[j]=rj at*;generalize sls[j]=s3 at*;rw [ZAQ (by omega)];refine ZL wK.row (Int.natCast_nonneg j) (by omega) λq hq'=>ZO wK.row (o8.mem (by simp)) rfl hq' (i:=j) a0 (by rfl) ?_;refine ZMT (g:=DS) (G:=G) o8 (by simp) (by simp) (wss.row.sub hdsub) rss hfs (by omega) λs4 d10 h10 o10 w10=>?_;refine ZH (vs:=ZG cSl [s4]) o10 λk4 h11 o11=>?_;refine ZU (cd:=cSl) (g:=ob k4 (ZG cSl [s4]) 165) (s:=sn) (t:=⟨some ⟨k4,0,none⟩,1,1⟩) (ys:=[s4]) (o11.pick [2,0,1,3,4,5,6,7] 8 (by decide) (by decide)) rfl wS (by decide) (Ze rfl rfl) (o11.get (i:=0) rfl) ?_ λd12 p12 n12 m12 h12 o12 w12=>?_
   .exact Nat.le_trans (Nat.mul_le_mul_right _ (show _<=200000 by rw [List.length_singleton]; omega)) (by decide)
   refine ZU5 (g:=d10) o12 (by simp) w10.row (Nat.le_trans (List.length_filter_le _ _) (by omega)) λs5 d13 h13 o13 w13=>?_;have hs5:=w13.1;refine ZH (vs:=ZG cSl [s5]) o13 λk7 h14 o14=>?_;have htl:tss.length=j:=by have:=congrArg List.length hts;unfold ZHE at this;simp at this;omega
   refine ZU (cd:=cSl) (g:=ob k7 (ZG cSl [s5]) 144) (s:=tk) (t:=⟨some ⟨k7,0,none⟩,1,1⟩) (ys:=[s5]) (o14.pick [5,0,2,6,7,8,9] 10 (by decide) (by decide)) rfl wT (by decide) (Ze rfl rfl) (o14.get (i:=0) rfl) ?_ λd15 p15 n15 m15 h15 o15 w15=>?_
   .exact Nat.le_trans (Nat.mul_le_mul_right _ (show _<=200000 by rw [List.length_singleton]; omega)) (by decide)
   refine again _ _ ⟨j+1,⟨p12,n12,m12⟩,⟨p15,n15,m15⟩,d12,d15,sns++[s4],tss++[s5],rfl,by omega,o15.pick [2,0,3,4,5,6] 7 (by decide) (by decide),w12,w15,by rw [List.length_append,hsn]; rfl,?_⟩ (by show ps.length-((j+1:Nat):Int).toNat<ps.length-(j:Int).toNat; omega);rw [List.map_append,hts,htk];unfold ZHE;rw [List.map_append,List.map_cons,List.map_nil,List.map_cons,List.map_nil,hs5,hfv]
  .have hje:j=ps.length:=by omega
   subst hje;have hRt:R.take ps.length=R:=by rw [<-hRl,List.take_length]
   rw [hRt] at hts;have a9:ZBY v S h8 (dT::l):=clV6 h8 _ (o8.pick [2,1] 6 (by decide) (by decide));exact hq v S R sn tk tss dT h8 a9 wT hts hrun iv hSl hRl
end
end Go.Proofs.YtkmniidiifpdgaaGreat
