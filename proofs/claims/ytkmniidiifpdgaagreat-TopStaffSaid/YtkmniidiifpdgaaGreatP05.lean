/- Made by program: of our texts what this law needs (TopV TopW TopX TopY TopZ TopAA TopAB TopAC LineT TopAD TopAE TopAF ModD TopAG TopAH TopAI TopAJ ModE ModF ModG ModH ModI ModJ ModK ModL ModM ModN TopAK TopAL ModO ModP ModR TopAM TopAN TopAO TopAP TopAQ TopAR TopAS TopAT TopAU TopAV). -/
import Derived.Test.YtkmniidiifpdgaaGreatP04
import Derived.KernelRfl
set_option linter.unusedVariables false
namespace Go.Proofs.YtkmniidiifpdgaaGreat
open Go.Eng
section
variable {k:DK} {S:DS} {b:Nat} {who:Int} {c:DC} {h:Hp} {l:List Hp} {N:Nat}
theorem Zt.getA {id:Int} (a:Zt k S h l) (i:WOk N S) (hN:N≤10000) {Q:Ask×Bool→Hp→Prop} (hq:∀ h',Zt k S h' l→Q (ZLA ZO8 (Go.Proofs.YtkmniidiifpdgaaGreat.getA S.asks id)) h'):ZA TP 81 [Value.pointer k.pa,Value.int .i64 id] (ZW [ZAM,cB]) h Q:=by
 obtain ⟨ca,R,o,w,cl⟩:=a.asks
 exact ZWX o w i.sa (by have:=i.l2; omega) fun c' h' o' w'=>hq h' (cl h' c' _ _ o' w')
theorem Zt.getQ {id:Int} (a:Zt k S h l) (i:WOk N S) (hN:N≤10000) {Q:Za×Bool→Hp→Prop} (hq:∀ h',Zt k S h' l→Q (ZLA ZMI (Go.Proofs.YtkmniidiifpdgaaGreat.getQ S.quotes id)) h'):ZA TP 210 [Value.pointer k.pq,Value.int .i64 id] (ZW [ZT,cB]) h Q:=by
 obtain ⟨ca,R,o,w,cl⟩:=a.quotes
 exact ZRx o w i.qs (by have:=i.l1; omega) fun c' h' o' w'=>hq h' (cl h' c' _ _ o' w')
theorem Zt.killQ {id:Int} (a:Zt k S h l) (i:WOk N S) (hN:N≤10000) {Q:Bool→Hp→Prop} (hq:∀ t h',Zt k {S with quotes:=Go.Proofs.YtkmniidiifpdgaaGreat.killQ S.quotes id} h' l→Q t h'):ZA TP 82 [Value.pointer k.pq,Value.int .i64 id] cB h Q:=by
 obtain ⟨ca,R,o,w,cl⟩:=a.quotes
 exact ZMp o w i.qs (by have:=i.l1; omega) fun c' h' o' w'=>hq _ h' (cl h' c' _ _ o' w')
theorem Zt.dropDue {kd id:Int} (a:Zt k S h l) (hd:S.due≤1000000) {Q:Bool→Hp→Prop} (hq:∀ t h',Zt k S h' l→Q t h'):ZA TP 89 [Value.pointer k.pd,Value.int .i64 kd,Value.int .i64 id] cB h Q:=by
 obtain ⟨ca,R,o,w,cl⟩:=a.dues
 exact ZUI o w hd fun t c' h' o' w'=>hq t h' (cl h' c' _ S.due o' w')
theorem Zt.addDue {x:Due} (a:Zt k S h l) (hd:S.due≤1000000) {Q:Bool→Hp→Prop} (hq:∀ t h',Zt k {S with due:=S.due+1} h' l→Q t h'):ZA TP 209 [Value.pointer k.pd,ZBY.enc x] cB h Q:=by
 obtain ⟨ca,R,o,w,cl⟩:=a.dues
 exact ZVu o w hd fun t c' h' o' w'=>hq t h' (cl h' c' _ _ o' w')
theorem WOk.due {S:DS} (i:WOk N S) (hN:N≤10000):S.due≤1000000:=by have:=i.l3; omega
theorem ZLk {id:Int} (a:Has k b who c h l) (i:WOk N c.d) (hN:N≤10000) {Q:Ask×Int→Hp→Prop} (hq:∀ h',Has k b who c h' l→Q (ZBm c.d who id) h'):
 ZA TP 211 [Value.pointer k.p,Value.pointer (some ⟨b,0,none⟩),Value.int .i64 id] (ZW [ZAM,cI .i64]) h Q:=by
 refine c211 ?_
 unfold F211
 unfold ZBm at hq
 dsimp only [ZR,DK.p]
 refine ZF (cd:=cP) (x:=k.pa) a.ob (i:=8) rfl ?_
 obtain ⟨C,wc,a⟩:=a
 refine a.getA i hN fun h2 a2=>?_
 have a2:Has k b who c h2 l:=⟨C,wc,a2⟩
 cases hg:getA c.d.asks id with
 | none=>
   rw [hg] at hq
   exact Zd rfl (hq h2 a2)
 | some x=>
   rw [hg] at hq
   dsimp only [ZLA] at hq ⊢
   refine ZQ rfl ?_
   refine a2.ldWho ?_
   refine ZD (fun e=>?_) fun e=>?_
   ·rw [if_pos (by simpa using e)] at hq
    exact hq h2 a2
   rw [if_neg (by simpa using e)] at hq
   refine ZD (fun e=>?_) fun e=>?_
   ·rw [if_pos (by simpa using e)] at hq
    exact hq h2 a2
   rw [if_neg (by simpa using e)] at hq
   exact hq h2 a2
theorem ZHk {q:Za} (a:Zt k S h l) (i:WOk N S) (hN:N≤10000) {Q:Bool→Hp→Prop} (hq:∀ h',Zt k S h' l→Q (ZFU S q) h'):ZA TP 88 [Value.pointer k.p,ZT.enc q] cB h Q:=by
 refine c88 ?_
 unfold F88
 unfold ZFU at hq
 dsimp only [ZR,DK.p]
 refine ZF (cd:=cP) (x:=k.pa) a.ob (i:=8) rfl ?_
 refine a.getA i hN fun h2 a2=>?_
 cases hg:getA S.asks q.Ask with
 | none=>
   rw [hg] at hq
   exact ZQ rfl (hq h2 a2)
 | some x=>
   rw [hg] at hq
   dsimp only [ZLA] at hq ⊢
   refine Zd rfl (ZD (fun e=>?_) fun e=>?_)
   ·rw [e] at hq
    exact hq h2 a2
   ·rw [e] at hq
    exact hq h2 a2
theorem ZKu {n:Int} {h:Hp} {Q:Bool→Hp→Prop} (hq:Q (ZI6 n) h):ZA TP 207 [Value.int .i64 n] cB h Q:=by
 refine c207 ?_
 unfold F207
 exact ZMC hq
theorem ZIW {x:Ask} {q:Za} (a:Zt k S h l) (i:WOk N S) (hb:isBond S x.Bond=true) (hp:q.Price≤1000000) (hx:x.Qty≤1000000) {Q:Int→Hp→Prop} (hq:∀ h',Zt k S h' l→Q (ZCp S x q) h'):
 ZA TP 215 [Value.pointer k.p,ZAM.enc x,ZT.enc q] (cI .i64) h Q:=by
 refine c215 ?_
 unfold F215
 unfold ZCp at hq
 dsimp only [ZR,DK.p]
 refine a.ldHalted hb i.bl ?_
 refine ZD (fun e=>?_) fun e=>?_
 ·rw [if_pos e] at hq
  exact hq h a
 rw [if_neg (by rw [e]; simp)] at hq
 have hn:=ZBC.1 hb
 have hbk:=ZB0 i hn
 have hget:=ZAw hn
 generalize x.Bond=n at*
 obtain ⟨m,rfl⟩:=Int.eq_ofNat_of_zero_le hn.1
 have hm:m<S.books.length:=by omega
 have hget:Zq S ((m:Nat):Int)=S.books[m]:=hget
 obtain ⟨cb,R,p,o1,w1,hld,cl⟩:=a.book hm
 refine hld ?_
 rw [←hget] at w1
 refine ZXF o1 w1 hbk.1 hbk.2.1 (by have:=hbk.2.2.1; omega) hp hx fun c2 h2 o2 w2=>?_
 have a2:=cl h2 c2 _ _ o2 w2
 rw [hget,List.set_getElem_self] at a2
 exact hq h2 a2
theorem ZMy {id:Int} (a:Zt k S h l) (i:WOk N S) (hN:N≤10000) {Q:PUnit→Hp→Prop} (hq:∀ h',Zt k {S with quotes:=ZIP S.quotes id} h' l→Q ⟨⟩ h'):ZA TP 144 [Value.pointer k.p,Value.int .i64 id] (ZW []) h Q:=by
 refine c144 ?_
 unfold F144
 have hd:=i.due hN
 have hl1:=i.l1
 dsimp only [ZR,DK.p]
 refine ZF (cd:=cP) (x:=k.pq) a.ob (i:=7) rfl ?_
 obtain ⟨cq,R,o1,w1,cl⟩:=a.quotes
 refine ZRa o1 w1 (by omega) fun s c2 d2 h2 o2 w2 wd=>?_
 have a2:=cl h2 c2 _ _ o2.rot3.swap w2
 have hfl:(S.quotes.filter fun x=>x.Ask==id).length≤N:=Nat.le_trans (List.length_filter_le _ _) hl1
 generalize hys:(S.quotes.filter fun x=>x.Ask==id).map Za.ID=ys at wd
 have hyl:ys.length≤N:=by rw [←hys,List.length_map]; exact hfl
 have hlen:=wd.1
 refine Zb (fun z h'=>∃ j:Nat,z=(j:Int)∧j≤ys.length∧Zt k {S with quotes:=ZIP S.quotes id} h' (d2::l)) (fun z=>ys.length-z.toNat) ⟨0,rfl,Nat.zero_le _,a2⟩ ?_
 rintro J z h3 again ⟨j,rfl,hj,a3⟩
 refine ZH (fun hlt=>?_) fun hge=>?_
 ·have hj':j<ys.length:=by omega
  refine ZM wd.row (Int.natCast_nonneg j) (by omega) fun p hp=>ZO wd.row (a3.sub (by simp)) rfl hp (i:=j) (List.getElem?_eq_getElem hj') (by rfl) ?_
  refine ZF (cd:=cP) (x:=k.pd) a3.ob (i:=9) rfl ?_
  refine a3.dropDue hd fun t h4 a4=>?_
  rw [ZAH (by omega)]
  exact again _ _ ⟨j+1,rfl,by omega,a4⟩ (by omega)
 ·refine ZF (cd:=cP) (x:=k.pd) a3.ob (i:=9) rfl ?_
  refine a3.dropDue hd fun t h4 a4=>?_
  refine ZF (cd:=cP) (x:=k.pd) a4.ob (i:=9) rfl ?_
  exact a4.dropDue hd fun t h5 a5=>hq h5 a5.drop
theorem ZVA {id st:Int} (a:Zt k S h l) (i:WOk N S) (hN:N≤10000) {Q:Int→Hp→Prop} (hq:∀ n h',Zt k {S with asks:=(ZP6 S.asks id st).1} h' l→Q n h'):ZA TP 143 [Value.pointer k.pa,Value.int .i64 id,Value.int .i64 st] (cI .i64) h Q:=by
 obtain ⟨ca,R,o,w,cl⟩:=a.asks
 exact ZVy o w i.sa (by have:=i.l2; omega) fun c' h' o' w'=>hq _ h' (cl h' c' _ _ o' w')
theorem ZLP {x:Ask} (a:Has k b who c h l) (i:WOk N c.d) (hN:N≤10000) (ho:c.outs.length≤1000000) {Q:PUnit→Hp→Prop} (hq:∀ h',Has k b who (ZJZ c x) h' l→Q ⟨⟩ h'):
 ZA TP 84 [Value.pointer k.p,Value.pointer (some ⟨b,0,none⟩),ZAM.enc x] (ZW []) h Q:=by
 refine c84 ?_
 unfold F84
 dsimp only [ZR,DK.p]
 refine ZF (cd:=cP) (x:=k.pa) a.ob (i:=8) rfl ?_
 obtain ⟨C,wc,a⟩:=a
 refine ZVA a i hN fun n h2 a2=>?_
 refine ZMy a2 (i.end x.ID 4) hN fun h3 a3=>?_
 have a3:Has k b who (ZUk c x.ID 4) h3 l:=⟨C,wc,a3⟩
 exact ZBh (ns:=[x.ID]) a3 (by simp) ho fun h4 a4=>hq h4 a4
theorem ZG7 {x:Ask} (a:Has k b who c h l) (i:WOk N c.d) (hN:N≤10000) (ho:c.outs.length≤1000000) {Q:PUnit→Hp→Prop} (hq:∀ h',Has k b who (ZAT c x) h' l→Q ⟨⟩ h'):
 ZA TP 83 [Value.pointer k.p,Value.pointer (some ⟨b,0,none⟩),ZAM.enc x] (ZW []) h Q:=by
 refine c83 ?_
 unfold F83
 unfold ZAT at hq
 dsimp only [ZR,DK.p]
 refine ZF (cd:=cP) (x:=k.pq) a.ob (i:=7) rfl ?_
 obtain ⟨C,wc,a⟩:=a
 refine a.killQ i hN fun t h2 a2=>?_
 have a2':Has k b who (ZFk c x.Hit) h2 l:=⟨C,wc,a2⟩
 have i2:WOk N (ZFk c x.Hit).d:=i.kill x.Hit
 refine ZF (cd:=cI .i64) (x:=c.d.now) a2.ob (i:=4) rfl ?_
 refine ZH (fun e=>?_) fun e=>?_
 ·rw [if_pos (by omega)] at hq
  exact ZLP a2' i2 hN ho hq
 ·rw [if_neg (by omega)] at hq
  refine ZF (cd:=cP) (x:=k.pa) a2.ob (i:=8) rfl ?_
  obtain ⟨ca,R,o3,w3,cl⟩:=a2.asks
  refine ZUm o3 w3 i2.sa (by have:=i.l2; show c.d.asks.length≤_; omega) fun c4 h4 o4 w4=>?_
  have a4:Has k b who {ZFk c x.Hit with d:={(ZFk c x.Hit).d with asks:=(ZGX c.d.asks x.ID).1}} h4 l:=⟨C,wc,cl h4 c4 _ _ o4 w4⟩
  exact ZBh (ns:=[x.ID,x.Hit]) a4 (by simp) ho fun h5 a5=>hq h5 a5
theorem ZV0 {id:Int} (a:Has k b who c h l) (i:WOk N c.d) (hN:N≤10000) (ho:c.outs.length≤1000000) {Q:Int→Hp→Prop} (hq:∀ h',Has k b who (ZHx c who id).1 h' l→Q (ZHx c who id).2 h'):
 ZA TP 135 [Value.pointer k.p,Value.pointer (some ⟨b,0,none⟩),Value.int .i64 id] (cI .i64) h Q:=by
 refine c135 ?_
 unfold F135
 unfold ZHx at hq
 refine ZLk a i hN fun h2 a2=>?_
 generalize ZBm c.d who id=r at hq ⊢
 refine ZD (fun e=>?_) fun e=>?_
 ·have e:r.2=0:=by simpa using e
  rw [if_pos e] at hq
  rw [e]
  dsimp only [ZR]
  refine a2.setId fun h3 a3=>?_
  exact ZLP (c:={c with id:=id}) a3 i hN ho fun h4 a4=>hq h4 a4
 ·rw [if_neg (by simpa using e)] at hq
  exact hq h2 a2
theorem ZVa {id:Int} (a:Has k b who c h l) (i:WOk N c.d) (hN:N≤10000) {Q:Int→Hp→Prop} (hq:∀ h',Has k b who (ZJX c who id).1 h' l→Q (ZJX c who id).2 h'):
 ZA TP 205 [Value.pointer k.p,Value.pointer (some ⟨b,0,none⟩),Value.int .i64 id] (cI .i64) h Q:=by
 refine c205 ?_
 unfold F205
 unfold ZJX at hq
 dsimp only [ZR,DK.p]
 refine ZF (cd:=cP) (x:=k.pq) a.ob (i:=7) rfl ?_
 obtain ⟨C,wc,a⟩:=a
 refine a.getQ i hN fun h2 a2=>?_
 have a2':Has k b who c h2 l:=⟨C,wc,a2⟩
 cases hg:getQ c.d.quotes id with
 | none=>
   rw [hg] at hq
   exact Zd rfl (hq h2 a2')
 | some x=>
   rw [hg] at hq
   dsimp only [ZLA] at hq ⊢
   refine ZQ rfl ?_
   refine a2'.ldWho ?_
   refine ZD (fun e=>?_) fun e=>?_
   ·rw [if_pos (by simpa using e)] at hq
    exact hq h2 a2'
   rw [if_neg (by simpa using e)] at hq
   refine ZHk a2 i hN fun h3 a3=>?_
   have a3':Has k b who c h3 l:=⟨C,wc,a3⟩
   refine ZD (fun e=>?_) fun e=>?_
   ·rw [if_pos e] at hq
    exact hq h3 a3'
   rw [if_neg (by rw [e]; simp)] at hq
   refine a3'.setId fun h4 a4=>?_
   refine ZF (cd:=cP) (x:=k.pq) a4.ob (i:=7) rfl ?_
   refine a4.ldWho ?_
   obtain ⟨C4,wc4,a4⟩:=a4
   obtain ⟨cq,R,o5,w5,cl⟩:=a4.quotes
   exact ZTR o5 w5 i.qs (by have:=i.l1; show c.d.quotes.length≤_; omega) fun c6 h6 o6 w6=>hq h6 ⟨C4,wc4,cl h6 c6 _ _ o6 w6⟩
theorem ZPr {x:Ask} {q:Za} (a:Has k b who c h l) (i:WOk N c.d) (hN:N≤10000) (ho:c.outs.length≤1000000) (hb:isBond c.d x.Bond=true) (hp:q.Price≤1000000) (hx:x.Qty≤1000000) {Q:Int→Hp→Prop}
 (hq:∀ h',Has k b who (ZPf c x q).1 h' l→Q (ZPf c x q).2 h'):ZA TP 212 [Value.pointer k.p,Value.pointer (some ⟨b,0,none⟩),ZAM.enc x,ZT.enc q] (cI .i64) h Q:=by
 refine c212 ?_
 unfold F212
 unfold ZPf at hq
 refine ZN (fun t h'=>h'=h∧t=decide (q.Live=false∨q.Expires≤c.d.now)) ?_ fun J hJ=>?_
 ·rintro t h' ⟨rfl,rfl⟩
  refine ZH (fun hc=>?_) fun hc=>?_
  ·rw [if_pos hc] at hq
   exact hq h' a
  rw [if_neg hc] at hq
  obtain ⟨C,wc,a⟩:=a
  refine ZIW a i hb hp hx fun h2 a2=>?_
  refine ZD (fun e=>?_) fun e=>?_
  ·rw [if_pos (by simpa using e)] at hq
   exact hq h2 ⟨C,wc,a2⟩
  rw [if_neg (by simpa using e)] at hq
  dsimp only [ZR,DK.p]
  refine ZF (cd:=cP) (x:=k.pf) a2.ob (i:=6) rfl ?_
  obtain ⟨D,hD,wD⟩:=a2.dsub
  obtain ⟨cF,hF,wF⟩:=wD.firm_sub hD
  refine ZW5 hF wF hp hx ?_
  refine ZD (fun e=>?_) fun e=>?_
  ·rw [if_pos (by simpa using e)] at hq
   exact hq h2 ⟨C,wc,a2⟩
  rw [if_neg (by simpa using e)] at hq
  refine ZF (cd:=cI .i64) (x:=c.d.now) a2.ob (i:=4) rfl ?_
  refine ZF (cd:=cI .i64) (x:=c.d.look) a2.ob (i:=2) rfl ?_
  refine ZF (cd:=cP) (x:=k.pa) a2.ob (i:=8) rfl ?_
  obtain ⟨ca,R,o3,w3,cl⟩:=a2.asks
  refine ZS9 (id:=x.ID) (q:=q.ID) (u:=ZD9 c.d) o3 w3 i.sa (by have:=i.l2; omega) fun c4 h4 o4 w4=>?_
  have a4:=cl h4 c4 _ _ o4 w4
  refine ZD (fun e=>?_) fun e=>?_
  ·have e:(ZDc c.d.asks x.ID q.ID (ZD9 c.d)).2≠0:=by simpa using e
   rw [if_pos e] at hq
   rw [ZO3 e] at a4
   exact hq h4 ⟨C,wc,a4⟩
  rw [if_neg (by simpa using e)] at hq
  refine ZF (cd:=cP) (x:=k.pd) a4.ob (i:=9) rfl ?_
  refine Zt.addDue (x:=⟨ZD9 c.d,2,x.ID⟩) a4 (i.due hN) fun t h5 a5=>?_
  have a5:Has k b who {c with d:={c.d with asks:=(ZDc c.d.asks x.ID q.ID (ZD9 c.d)).1,due:=c.d.due+1}} h5 l:=⟨C,wc,a5⟩
  refine a5.setId fun h6 a6=>?_
  exact ZBh (ns:=[x.ID,q.ID,ZD9 c.d]) a6 (by simp) ho fun h7 a7=>hq h7 a7
 ·dsimp only [ZR,DK.p]
  refine ZD (fun e=>hJ _ _ ⟨rfl,?_⟩) fun e=>ZF (cd:=cI .i64) (x:=c.d.now) a.ob (i:=4) rfl (hJ _ _ ⟨rfl,?_⟩)
  ·rw [Bool.eq_iff_iff]; simp_all
  ·have e:q.Live=true:=by simpa using e
   exact decide_eq_decide.2 (by rw [e]; simp)
end
section
variable {k:DK} {S:DS} {b:Nat} {who:Int} {c:DC} {h:Hp} {l:List Hp} {N:Nat}
theorem ZFa (i:WOk N S) {a:Ask} (ha:a∈S.asks):isBond S a.Bond=true∧a.Qty≤1000000∧0≤a.Client∧a.Client<8:=by
 have:=i.ai a ha
 exact ⟨ZBC.2 ⟨this.2.2.1,this.2.2.2.1⟩,this.2.2.2.2.2.1,this.2.2.2.2.2.2⟩
theorem ZDt {id:Int} (h:(ZBm S who id).2=0):(ZBm S who id).1∈S.asks∧(ZBm S who id).1.Client=who∧(ZBm S who id).1.State=1∧getA S.asks id=some (ZBm S who id).1:=by
 unfold ZBm at*
 cases hg:getA S.asks id with
 | none=>rw [hg] at h; cases h
 | some a=>
   rw [hg] at h
   dsimp only at h ⊢
   by_cases h1:a.Client≠who
   ·rw [if_pos h1] at h; cases h
   rw [if_neg h1] at h ⊢
   by_cases h2:a.State≠1
   ·rw [if_pos h2] at h; cases h
   rw [if_neg h2]
   exact ⟨(ZDK hg).1,Classical.not_not.1 h1,Classical.not_not.1 h2,rfl⟩
theorem ZM8 {s:Int} {qs:List Za} (h:(ZJx s qs).2=true):(ZJx s qs).1∈qs:=by
 cases qs with
 | nil=>cases h
 | cons q t=>
   unfold ZJx at h ⊢
   dsimp only at h ⊢
   split at h
   ·cases h
   ·rename_i hs
    rw [if_neg hs]
    dsimp only
    have key:∀ (l:List Za) (b:Za),(∀ x∈l,x∈q::t)→b∈q::t→l.foldl (ZKz s) b∈q::t:=by
     intro l
     induction l with
     | nil=>intro b _ hb; exact hb
     | cons y l ih=>
       intro b hl hb
       refine ih (ZKz s b y) (fun x hx=>hl x (by simp [hx])) ?_
       unfold ZKz
       split
       ·exact hl y (by simp)
       ·exact hb
    exact key (q::t) q (fun x hx=>hx) (by simp)
theorem ZWj {m:Msg} (a:Has k b who c h l) (i:WOk N c.d) (hN:N≤10000) (ho:c.outs.length≤1000000) {Q:Int→Hp→Prop} (hq:∀ h',Has k b who (ZH7 c who m).1 h' l→Q (ZH7 c who m).2 h'):
 ZA TP 133 [Value.pointer k.p,Value.pointer (some ⟨b,0,none⟩),ZAY.enc m] (cI .i64) h Q:=by
 refine c133 ?_
 unfold F133
 unfold ZH7 at hq
 dsimp only [ZR,DK.p]
 refine ZD (fun e=>?_) fun e=>?_
 ·rw [if_pos (by simpa using e)] at hq
  refine ⟨by decide,by decide,?_⟩
  refine ZF (cd:=cP) (x:=k.pq) a.ob (i:=7) rfl ?_
  obtain ⟨C,wc,a⟩:=a
  refine a.getQ i hN fun h2 a2=>?_
  have a2:Has k b who c h2 l:=⟨C,wc,a2⟩
  cases hg:getQ c.d.quotes m.F_0 with
  | none=>
    rw [hg] at hq
    exact Zd rfl (hq h2 a2)
  | some q=>
    rw [hg] at hq
    dsimp only [ZLA] at hq ⊢
    refine ZQ rfl ?_
    refine ZLk a2 i hN fun h3 a3=>?_
    refine ZD (fun e=>?_) fun e=>?_
    ·rw [if_pos (by simpa using e)] at hq
     exact hq h3 a3
    rw [if_neg (by simpa using e)] at hq
    obtain ⟨hm,_⟩:=ZDt (S:=c.d) (who:=who) (id:=q.Ask) (by simpa using e)
    obtain ⟨hb1,hb2,_⟩:=ZFa i hm
    exact ZPr (x:=(ZBm c.d who q.Ask).1) (q:=q) a3 i hN ho hb1 (i.qi q (ZJN hg).1).2.2.1 hb2 hq
 ·rw [if_neg (by simpa using e)] at hq
  refine ⟨by decide,by decide,?_⟩
  refine ZLk a i hN fun h3 a3=>?_
  refine ZD (fun e=>?_) fun e=>?_
  ·rw [if_pos (by simpa using e)] at hq
   exact hq h3 a3
  rw [if_neg (by simpa using e)] at hq
  obtain ⟨hm,_⟩:=ZDt (S:=c.d) (who:=who) (id:=m.F_0) (by simpa using e)
  obtain ⟨hb1,hb2,_⟩:=ZFa i hm
  generalize (ZBm c.d who m.F_0).1=x at*
  refine ZF (cd:=cP) (x:=k.pq) a3.ob (i:=7) rfl ?_
  refine ZF (cd:=cI .i64) (x:=c.d.now) a3.ob (i:=4) rfl ?_
  obtain ⟨C,wc,a3⟩:=a3
  obtain ⟨cq,R,o4,w4,cl⟩:=a3.quotes
  have hl1:=i.l1
  refine ZU1 o4 w4 (by omega) fun s c5 d5 h5 o5 w5 wd=>?_
  have a5:=cl h5 c5 _ _ (o5.pick [0,2,1] 3 (by decide) (by decide)) w5
  have a5:Has k b who c h5 (d5::l):=⟨C,wc,a5.perm (List.Perm.swap _ _ _)⟩
  refine ZWC wd.row (a5.sub (by simp)) (Nat.le_trans (List.length_filter_le _ _) (by omega)) ?_
  have a5:=a5.drop
  refine ZD (fun e=>?_) fun e=>?_
  ·rw [if_pos (by simpa using e)] at hq
   exact hq h5 a5
  rw [if_neg (by simpa using e)] at hq
  have hbm:=ZM8 (s:=x.Side) (qs:=c.d.quotes.filter (ZPO x.ID c.d.now)) (by simpa using e)
  generalize (ZJx x.Side (c.d.quotes.filter (ZPO x.ID c.d.now))).1=q at*
  exact ZPr (x:=x) (q:=q) a5 i hN ho hb1 (i.qi q (List.mem_filter.1 hbm).1).2.2.1 hb2 hq
theorem ZSS {m:Msg} (a:Has k b who c h l) (i:WOk N c.d) (hN:N≤10000) (hw:0≤who∧who<8) (ho:c.outs.length≤1000000) {Q:Int→Hp→Prop} (hq:∀ h',Has k b who (ZCv c who m).1 h' l→Q (ZCv c who m).2 h'):
 ZA TP 132 [Value.pointer k.p,Value.pointer (some ⟨b,0,none⟩),ZAY.enc m] (cI .i64) h Q:=by
 refine c132 ?_
 unfold F132
 unfold ZCv at hq
 refine ZD (fun e=>?_) fun e=>?_
 ·rw [if_pos (by simpa using e)] at hq
  refine ⟨by decide,by decide,?_⟩
  exact ZVa a i hN hq
 rw [if_neg (by simpa using e)] at hq
 dsimp only [ZR,DK.p]
 refine ⟨by decide,by decide,?_⟩
 refine ZF (cd:=cP) (x:=k.pa) a.ob (i:=8) rfl ?_
 obtain ⟨C,wc,a⟩:=a
 refine a.getA i hN fun h2 a2=>?_
 have a2:Has k b who c h2 l:=⟨C,wc,a2⟩
 refine ⟨by decide,by decide,by decide,by decide,?_⟩
 cases hg:getA c.d.asks m.F_0 with
 | none=>
   rw [hg] at hq
   exact Zd rfl (hq h2 a2)
 | some x=>
   rw [hg] at hq
   dsimp only [ZLA] at hq ⊢
   obtain ⟨hb1,hb2,hc1,hc2⟩:=ZFa i (ZDK hg).1
   refine ZQ rfl ?_
   refine a2.ldWho ⟨hw.1,?_⟩
   refine ZD (fun e=>?_) fun e=>?_
   ·rw [if_pos (by simpa using e)] at hq
    exact hq h2 a2
   rw [if_neg (by simpa using e)] at hq
   refine ZD (fun e=>?_) fun e=>?_
   ·rw [if_pos (by simpa using e)] at hq
    exact hq h2 a2
   rw [if_neg (by simpa using e)] at hq
   refine a2.ldHalted hb1 i.bl ?_
   refine ZD (fun e=>?_) fun e=>?_
   ·rw [if_pos e] at hq
    exact hq h2 a2
   rw [if_neg (by rw [e]; simp)] at hq
   refine a2.ldBond hb1 i.bl ?_
   have hbb:=i.bonds _ (ZAv hb1 i.bl).1
   refine ZMq (b:=ZAO c.d x.Bond) (by omega) ?_
   refine ZD (fun e=>?_) fun e=>?_
   ·rw [if_pos (by simpa using e)] at hq
    exact hq h2 a2
   rw [if_neg (by simpa using e)] at hq
   refine ZKu (ZD (fun e=>?_) fun e=>?_)
   ·rw [if_pos (by simpa using e)] at hq
    exact hq h2 a2
   rw [if_neg (by simpa using e)] at hq
   have hc3:=i.c3
   have hl1:=i.l1
   refine ZF (cd:=cI .i64) (x:=c.d.quote) a2.ob (i:=14) rfl ?_
   refine a2.ldWho ?_
   refine ZF (cd:=cI .i64) (x:=c.d.now) a2.ob (i:=4) rfl ?_
   refine ZF (cd:=cP) (x:=k.pq) a2.ob (i:=7) rfl ?_
   rw [w64 (n:=c.d.quote+1) (by omega) (by omega)]
   obtain ⟨C2,wc2,a2⟩:=a2
   obtain ⟨cq,R,o3,w3,cl⟩:=a2.quotes
   refine ZXG (x:=Z2 c who x m) o3 w3 i.qs (fun y hy=>by have:=(i.qi y hy).1; show y.ID<c.d.quote+1; omega) (by omega) fun old c4 h4 o4 w4=>?_
   have a4:=cl h4 c4 _ _ o4 w4
   refine ZD (fun e=>?_) fun e=>?_
   ·have e:(ZIp c.d.quotes (Z2 c who x m)).2≠0:=by simpa using e
    rw [if_pos e] at hq
    rw [ZPo e] at a4
    exact hq h4 ⟨C2,wc2,a4⟩
   rw [if_neg (by simpa using e)] at hq
   have a4:Has k b who {c with d:={c.d with quotes:=(ZIp c.d.quotes (Z2 c who x m)).1}} h4 l:=⟨C2,wc2,a4⟩
   refine ZF (cd:=cI .i64) (x:=c.d.quote) a4.ob (i:=14) rfl ?_
   rw [w64 (n:=c.d.quote+1) (by omega) (by omega)]
   refine a4.setQuote fun h5 a5=>?_
   refine ZF (cd:=cI .i64) (x:=c.d.quote+1) a5.ob (i:=14) rfl ?_
   refine a5.setId fun h6 a6=>?_
   refine ZF (cd:=cP) (x:=k.pd) a6.ob (i:=9) rfl ?_
   obtain ⟨C6,wc6,a6⟩:=a6
   refine Zt.addDue (x:=⟨IntKind.i64.wrap (c.d.now+m.F_2),3,c.d.quote+1⟩) a6 (i.due hN) fun t h7 a7=>?_
   have a7:Has k b who (ZP2 c (Z2 c who x m)) h7 l:=⟨C6,wc6,a7⟩
   exact ZBh (ns:=[x.ID,c.d.quote+1,m.F_1,IntKind.i64.wrap (c.d.now+m.F_2)]) a7 (by simp) ho fun h8 a8=>hq h8 a8
end
section
variable {k:DK} {S:DS} {b:Nat} {who:Int} {c:DC} {h:Hp} {l:List Hp} {N:Nat}
theorem ZGo (x:Ask):∀ (is:List Nat) (c:DC),(is.foldl (ZBp x) c).d=c.d∧(is.foldl (ZBp x) c).id=c.id∧(is.foldl (ZBp x) c).outs.length≤c.outs.length+is.length
 | [],c=>⟨rfl,rfl,by simp⟩
 | i::is,c=>by
   have h:=ZGo x is (ZBp x c i)
   rw [List.foldl_cons]
   have e:(ZBp x c i).d=c.d∧(ZBp x c i).id=c.id∧(ZBp x c i).outs.length≤c.outs.length+1:=by
    unfold ZBp
    split
    ·exact ⟨rfl,rfl,by simp [ZBs]⟩
    ·exact ⟨rfl,rfl,by omega⟩
   rw [List.length_cons]
   exact ⟨by rw [h.1,e.1],by rw [h.2.1,e.2.1],by omega⟩
theorem ZOo {m:Msg} (a:Has k b who c h l) (i:WOk N c.d) (hN:N≤10000) (hw:0≤who∧who<8) (ho:c.outs.length≤500000) {Q:Int→Hp→Prop} (hq:∀ h',Has k b who (ZBz c who m).1 h' l→Q (ZBz c who m).2 h'):
 ZA TP 136 [Value.pointer k.p,Value.pointer (some ⟨b,0,none⟩),ZAY.enc m] (cI .i64) h Q:=by
 refine c136 ?_
 unfold F136
 unfold ZBz at hq
 refine ⟨by decide,by decide,by decide,by decide,by decide,by decide,by decide,by decide,by decide,by decide,?_⟩
 refine a.isBond (ZD (fun e=>?_) fun e=>?_)
 ·rw [if_pos (by simpa using e)] at hq
  exact hq h a
 have hb:isBond c.d m.F_0=true:=by simpa using e
 rw [if_neg (by rw [hb]; simp)] at hq
 refine ZC1 (ZD (fun e=>?_) fun e=>?_)
 ·rw [if_pos (by simpa using e)] at hq
  exact hq h a
 rw [if_neg (by simpa using e)] at hq
 dsimp only [ZR,DK.p]
 refine a.ldHalted hb i.bl ?_
 refine ZD (fun e=>?_) fun e=>?_
 ·rw [if_pos e] at hq
  exact hq h a
 rw [if_neg (by rw [e]; simp)] at hq
 refine a.ldBond hb i.bl ?_
 have hbb:=i.bonds _ (ZAv hb i.bl).1
 refine ZSp (b:=ZAO c.d m.F_0) (by omega) ?_
 refine ZD (fun e=>?_) fun e=>?_
 ·rw [if_pos (by simpa using e)] at hq
  exact hq h a
 rw [if_neg (by simpa using e)] at hq
 refine ZF (cd:=cP) (x:=k.pf) a.ob (i:=6) rfl ?_
 refine a.ldWho ?_
 obtain ⟨C,wc,a'⟩:=a
 obtain ⟨D,hD,wD⟩:=a'.dsub
 obtain ⟨cF,hF,wF⟩:=wD.firm_sub hD
 refine ZTN hF wF ?_
 refine ZD (fun e=>?_) fun e=>?_
 ·rw [if_pos (by simpa using e)] at hq
  exact hq h ⟨C,wc,a'⟩
 rw [if_neg (by simpa using e)] at hq
 refine ZKu (ZD (fun e=>?_) fun e=>?_)
 ·rw [if_pos (by simpa using e)] at hq
  exact hq h ⟨C,wc,a'⟩
 rw [if_neg (by simpa using e)] at hq
 have a:Has k b who c h l:=⟨C,wc,a'⟩
 have hc4:=i.c4
 have hl2:=i.l2
 refine ZF (cd:=cI .i64) (x:=c.d.ask) a.ob (i:=15) rfl ?_
 refine a.ldWho ?_
 refine ZF (cd:=cI .i64) (x:=c.d.now) a.ob (i:=4) rfl ?_
 refine ZF (cd:=cP) (x:=k.pa) a.ob (i:=8) rfl ?_
 rw [w64 (n:=c.d.ask+1) (by omega) (by omega)]
 obtain ⟨ca,R,o3,w3,cl⟩:=a'.asks
 refine ZVX (x:=Z6 c who m) o3 w3 i.sa (fun y hy=>by have:=(i.ai y hy).1; show y.ID<c.d.ask+1; omega) (by omega) fun c4 h4 o4 w4=>?_
 have a4:=cl h4 c4 _ _ o4 w4
 refine ZD (fun e=>?_) fun e=>?_
 ·have e:(ZIj c.d.asks (Z6 c who m)).2≠0:=by simpa using e
  rw [if_pos e] at hq
  rw [ZQ9 e] at a4
  exact hq h4 ⟨C,wc,a4⟩
 rw [if_neg (by simpa using e)] at hq
 have a4:Has k b who {c with d:={c.d with asks:=(ZIj c.d.asks (Z6 c who m)).1}} h4 l:=⟨C,wc,a4⟩
 refine ZF (cd:=cI .i64) (x:=c.d.ask) a4.ob (i:=15) rfl ?_
 rw [w64 (n:=c.d.ask+1) (by omega) (by omega)]
 refine a4.setAsk fun h5 a5=>?_
 refine ZF (cd:=cI .i64) (x:=c.d.ask+1) a5.ob (i:=15) rfl ?_
 refine a5.setId fun h6 a6=>?_
 refine ZF (cd:=cP) (x:=k.pd) a6.ob (i:=9) rfl ?_
 obtain ⟨C6,wc6,a6⟩:=a6
 refine Zt.addDue (x:=⟨IntKind.i64.wrap (c.d.now+m.F_4),1,c.d.ask+1⟩) a6 (i.due hN) fun t h7 a7=>?_
 have hpl:k.sp.len=c.d.parties.length:=by
  obtain ⟨D,hD,wD⟩:=a7.dsub
  obtain ⟨dP,_,wP⟩:=wD.parties_sub hD
  exact wP.1
 have a7:Has k b who (ZPg c (Z6 c who m)) h7 l:=⟨C6,wc6,a7⟩
 have h8:=i.pl
 refine ZF (cd:=cSl) (x:=k.sp) a7.ob (i:=1) rfl ?_
 refine Zb (fun z h'=>∃ j:Nat,z=(j:Int)∧j≤c.d.parties.length∧Has k b who ((List.range j).foldl (ZBp (Z6 c who m)) (ZPg c (Z6 c who m))) h' l) (fun z=>c.d.parties.length-z.toNat) ⟨0,rfl,Nat.zero_le _,a7⟩ ?_
 rintro J z h9 again ⟨j,rfl,hj,a9⟩
 refine ZH (fun hlt=>?_) fun hge=>?_
 ·have hd:=ZGo (Z6 c who m) (List.range j) (ZPg c (Z6 c who m))
  have ho1:(ZPg c (Z6 c who m)).outs=c.outs:=rfl
  rw [ho1,List.length_range] at hd
  have est:(List.range (j+1)).foldl (ZBp (Z6 c who m)) (ZPg c (Z6 c who m))=ZBp (Z6 c who m) ((List.range j).foldl (ZBp (Z6 c who m)) (ZPg c (Z6 c who m))) j:=by
   rw [List.range_succ,List.foldl_append]; rfl
  generalize (List.range j).foldl (ZBp (Z6 c who m)) (ZPg c (Z6 c who m))=cj at*
  rw [ZAH (by omega)]
  refine ZN (fun _ h'=>Has k b who (ZBp (Z6 c who m) cj j) h' l) ?_ fun J2 hJ2=>?_
  ·rintro _ h' a'
   exact again _ _ ⟨j+1,rfl,by omega,by rw [est]; exact a'⟩ (by omega)
  ·refine ⟨Int.natCast_nonneg j,?_⟩
   unfold ZBp at hJ2
   refine ZD (fun e=>?_) fun e=>?_
   ·have e:ZCR .u64 (ZBM .u64 (Z6 c who m).Dealers (j:Int)) 1=1:=by
         show ZCR .u64 (ZBM .u64 (IntKind.u64.wrap m.F_3) (j:Int)) 1=1
         simpa using e
    rw [if_pos e] at hJ2
    exact ZBh (ns:=[c.d.ask+1,m.F_0,m.F_1,m.F_2,IntKind.i64.wrap (c.d.now+m.F_4)]) a9 (by simp) (by omega) fun h10 a10=>hJ2 _ _ a10
   ·have e:¬ZCR .u64 (ZBM .u64 (Z6 c who m).Dealers (j:Int)) 1=1:=by
         have:(ZCR .u64 (ZBM .u64 (IntKind.u64.wrap m.F_3) (j:Int)) 1==1)=false:=e
         show ¬ZCR .u64 (ZBM .u64 (IntKind.u64.wrap m.F_3) (j:Int)) 1=1
         simpa using this
    rw [if_neg e] at hJ2
    exact hJ2 _ _ a9
 ·have:j=c.d.parties.length:=by omega
  subst this
  exact hq h9 a9
theorem ZNk (i:WOk N S) (a:Ask):ZCm S a=ZMI∨ZCm S a∈S.quotes:=by
 unfold ZCm
 cases hg:getQ S.quotes a.Hit with
 | none=>exact .inl rfl
 | some q=>exact .inr (ZJN hg).1
theorem ZTE {m:Msg} (a:Has k b who c h l) (i:WOk N c.d) (hN:N≤10000) (ho:c.outs.length≤500000) {Q:Int→Hp→Prop} (hq:∀ h',Has k b who (ZEc c who m).1 h' l→Q (ZEc c who m).2 h'):
 ZA TP 134 [Value.pointer k.p,Value.pointer (some ⟨b,0,none⟩),ZAY.enc m] (cI .i64) h Q:=by
 refine c134 ?_
 unfold F134
 unfold ZEc at hq
 dsimp only [ZR,DK.p]
 refine ⟨by decide,by decide,?_⟩
 refine ZF (cd:=cP) (x:=k.pa) a.ob (i:=8) rfl ?_
 obtain ⟨C,wc,a⟩:=a
 refine a.getA i hN fun h2 a2=>?_
 have a2':Has k b who c h2 l:=⟨C,wc,a2⟩
 cases hg:getA c.d.asks m.F_0 with
 | none=>
   rw [hg] at hq
   exact Zd rfl (hq h2 a2')
 | some x=>
   rw [hg] at hq
   dsimp only at hq
   obtain ⟨hb1,hb2,hc1,hc2⟩:=ZFa i (ZDK hg).1
   have hx:=i.ai x (ZDK hg).1
   dsimp only [ZLA]
   refine ZQ rfl ?_
   refine ZD (fun e=>?_) fun e=>?_
   ·rw [if_pos (by simpa using e)] at hq
    exact hq h2 a2'
   rw [if_neg (by simpa using e)] at hq
   refine ZF (cd:=cP) (x:=k.pq) a2.ob (i:=7) rfl ?_
   refine a2.getQ i hN fun h3 a3=>?_
   have a3:Has k b who c h3 l:=⟨C,wc,a3⟩
   have hh:=ZNk i x
   have hp:(ZCm c.d x).Price≤1000000∧0≤(ZCm c.d x).Price∧0≤(ZCm c.d x).Dealer∧(ZCm c.d x).Dealer<8:=by
    rcases hh with e|e
    ·rw [e]; exact ⟨by decide,by decide,by decide,by decide⟩
    ·have:=i.qi _ e; omega
   have eq0:(ZLA ZMI (getQ c.d.quotes x.Hit)).1=ZCm c.d x:=rfl
   rw [eq0]
   generalize ZCm c.d x=q at*
   refine a3.ldWho ?_
   refine ZD (fun e=>?_) fun e=>?_
   ·rw [if_pos (by simpa using e)] at hq
    exact hq h3 a3
   rw [if_neg (by simpa using e)] at hq
   refine a3.setId fun h4 a4=>?_
   refine ZD (fun e=>?_) fun e=>?_
   ·rw [if_pos (by simpa using e)] at hq
    refine ZF (cd:=cP) (x:=k.pd) a4.ob (i:=9) rfl ?_
    obtain ⟨C4,wc4,a4⟩:=a4
    refine a4.dropDue (i.due hN) fun t h5 a5=>?_
    exact ZG7 (c:={c with id:=x.ID}) (x:=x) ⟨C4,wc4,a5⟩ i hN (by show c.outs.length≤_; omega) fun h6 a6=>hq h6 a6
   rw [if_neg (by simpa using e)] at hq
   obtain ⟨C4,wc4,a4⟩:=a4
   refine ZIW (x:=x) (q:=q) a4 i hb1 hp.1 hb2 fun h5 a5=>?_
   refine ZD (fun e=>?_) fun e=>?_
   ·rw [if_pos (by simpa using e)] at hq
    exact hq h5 ⟨C4,wc4,a5⟩
   rw [if_neg (by simpa using e)] at hq
   refine ZF (cd:=cP) (x:=k.pf) a5.ob (i:=6) rfl ?_
   obtain ⟨cF,R,o6,w6,cl⟩:=a5.firm
   refine ZYT (who:=q.Dealer) (price:=q.Price) (qty:=x.Qty) o6 w6 hp.1 hb2 fun c7 h7 o7 w7=>?_
   have a7:=cl h7 c7 _ _ o7 w7
   refine ZD (fun e=>?_) fun e=>?_
   ·have e:(ZK2 c.d.parties c.d.used q.Dealer q.Price x.Qty).2≠0:=by simpa using e
    rw [if_pos e] at hq
    rw [ZQY e] at a7
    exact hq h7 ⟨C4,wc4,a7⟩
   rw [if_neg (by simpa using e)] at hq
   refine ZF (cd:=cP) (x:=k.pa) a7.ob (i:=8) rfl ?_
   have i7:=i.used (ZK2 c.d.parties c.d.used q.Dealer q.Price x.Qty).1
   refine ZVA a7 i7 hN fun n8 h8 a8=>?_
   refine ZMy a8 (i7.end x.ID 3) hN fun h9 a9=>?_
   have a9:Has k b who (ZUk {c with d:={c.d with used:=(ZK2 c.d.parties c.d.used q.Dealer q.Price x.Qty).1},id:=x.ID} x.ID 3) h9 l:=⟨C4,wc4,a9⟩
   refine ZBh (ns:=[x.ID,q.Price]) a9 (by simp) (by show c.outs.length≤_; omega) fun h10 a10=>?_
   have hl4:=i.l4
   refine ZKa (t:=⟨0,x.Bond,0,0,q.Price,x.Qty,x.ID,0⟩) a10 ?_ (by show c.d.trades.length≤_; omega) (by simp [ZBs,ZUk]; omega) fun h11 a11=>hq h11 a11
   have hnow:=i.now
   have hc4:=i.c4
   have hbl:=i.bl4
   unfold ZCc ZBI I64
   unfold I64 at hnow
   have e1:(ZBs (ZUk {c with d:={c.d with used:=(ZK2 c.d.parties c.d.used q.Dealer q.Price x.Qty).1},id:=x.ID} x.ID 3) x.Client 26 [x.ID,q.Price]).d.now=c.d.now:=rfl
   rw [e1]
   dsimp only
   refine ⟨by omega,by omega,?_,?_,by omega,by omega,by omega,by omega⟩
   ·split<;>omega
   ·split<;>omega
end
section
variable {k:DK} {S:DS} {b:Nat} {who:Int} {c:DC} {h:Hp} {l:List Hp} {N:Nat}
theorem ZKM {ps:List Z3} {kind:Int} (h:ZSB (ZEV ps who) kind=true):0≤who∧who<ps.length:=by
 cases hp:ZDh ps who with
 | none=>
   rw [ZGE hp] at h
   unfold ZSB at h
   split at h
   ·cases h
   ·split at h
    ·cases h
    ·split at h
     ·cases h
     ·simp at h
 | some x=>
   have:=ZGf hp
   exact ⟨this.1,this.2.1⟩
theorem ZLp (i:WOk N S) {m:Msg} (h:ZSz S who m=true):0≤who∧who<8:=by
 unfold ZSz at h
 simp only [Bool.and_eq_true] at h
 have:=ZKM h.2.2
 have:=i.pl
 omega
theorem ZXI {m:Msg} (a:Has k b who c h l) (i:WOk N c.d) (hN:N≤9000) (ho:c.outs.length≤500000) {Q:Int→Hp→Prop} (hq:∀ h',Has k b who (ZCJ c who m).1 h' l→Q (ZCJ c who m).2 h'):
 ZA TP 78 [Value.pointer k.p,Value.pointer (some ⟨b,0,none⟩),ZAY.enc m] (cI .i64) h Q:=by
 refine c78 ?_
 unfold F78
 unfold ZCJ at hq
 refine ZN (fun t h'=>Has k b who c h' l∧t=!ZSz c.d who m) ?_ fun J hJ=>?_
 ·rintro t h1 ⟨a1,rfl⟩
  refine ZD (fun e=>?_) fun e=>?_
  ·rw [if_pos (by simpa using e)] at hq
   exact hq h1 a1
  have e:ZSz c.d who m=true:=by simpa using e
  have hw:=ZLp i e
  rw [if_neg (by rw [e]; simp)] at hq
  refine ZN (fun t h'=>h'=h1∧t=decide (m.Kind=6∨m.Kind=7∨m.Kind=8)) ?_ fun J hJ=>?_
  ·rintro t h' ⟨rfl,rfl⟩
   refine ZH (fun hk=>?_) fun hk=>?_
   ·rw [if_pos hk] at hq
    exact ZQN a1 i hN hw ho hq
   rw [if_neg hk] at hq
   refine ZN (fun t h2=>h2=h'∧t=decide (m.Kind=10∨m.Kind=11)) ?_ fun J hJ=>?_
   ·rintro t h' ⟨rfl,rfl⟩
    refine ZH (fun hk=>?_) fun hk=>?_
    ·rw [if_pos hk] at hq
     exact ZSS a1 i (by omega) hw (by omega) hq
    rw [if_neg hk] at hq
    refine ZN (fun t h2=>h2=h'∧t=decide (m.Kind=12∨m.Kind=13)) ?_ fun J hJ=>?_
    ·rintro t h' ⟨rfl,rfl⟩
     refine ZH (fun hk=>?_) fun hk=>?_
     ·rw [if_pos hk] at hq
      exact ZWj a1 i (by omega) (by omega) hq
     rw [if_neg hk] at hq
     refine ZN (fun t h2=>h2=h'∧t=decide (m.Kind=14∨m.Kind=15)) ?_ fun J hJ=>?_
     ·rintro t h' ⟨rfl,rfl⟩
      refine ZH (fun hk=>?_) fun hk=>?_
      ·rw [if_pos hk] at hq
       exact ZTE a1 i (by omega) ho hq
      rw [if_neg hk] at hq
      refine ZD (fun hk=>?_) fun hk=>?_
      ·rw [if_pos (by simpa using hk)] at hq
       exact ⟨by decide,by decide,ZV0 a1 i (by omega) (by omega) hq⟩
      rw [if_neg (by simpa using hk)] at hq
      refine ZD (fun hk=>?_) fun hk=>?_
      ·rw [if_pos (by simpa using hk)] at hq
       exact ZOo a1 i (by omega) hw ho hq
      rw [if_neg (by simpa using hk)] at hq
      exact ⟨by decide,by decide,by decide,by decide,ZV8 a1 i hq⟩
     ·refine ZD (fun e=>hJ _ _ ⟨rfl,?_⟩) fun e=>hJ _ _ ⟨rfl,?_⟩
      all_goals (rw [Bool.eq_iff_iff]; simp_all)
    ·refine ZD (fun e=>hJ _ _ ⟨rfl,?_⟩) fun e=>hJ _ _ ⟨rfl,?_⟩
     all_goals (rw [Bool.eq_iff_iff]; simp_all)
   ·refine ZD (fun e=>hJ _ _ ⟨rfl,?_⟩) fun e=>hJ _ _ ⟨rfl,?_⟩
    all_goals (rw [Bool.eq_iff_iff]; simp_all)
  ·refine ZD (fun e=>hJ _ _ ⟨rfl,?_⟩) fun e=>ZD (fun e2=>hJ _ _ ⟨rfl,?_⟩) fun e2=>hJ _ _ ⟨rfl,?_⟩
   all_goals (rw [Bool.eq_iff_iff]; simp_all)
 ·unfold ZSz at hJ
  refine ZXY ?_
  refine ZD (fun e=>hJ _ _ ⟨a,?_⟩) fun e=>?_
  ·have e:decide (6≤m.Kind∧m.Kind≤17)=false:=by
    cases h:decide (6≤m.Kind∧m.Kind≤17) with
    | false=>rfl
    | true=>rw [h] at e; cases e
   rw [e]; rfl
  have e:decide (6≤m.Kind∧m.Kind≤17)=true:=by
   cases h:decide (6≤m.Kind∧m.Kind≤17) with
   | true=>rfl
   | false=>rw [h] at e; cases e
  rw [e] at hJ
  obtain ⟨C,wc,D,o,w⟩:=a
  refine ZW1 o fun h2 o2=>?_
  have a2:Has k b who c h2 l:=⟨C,wc,D,o2,w⟩
  refine ZD (fun e2=>hJ _ _ ⟨a2,?_⟩) fun e2=>?_
  ·have e2:isV m=false:=by simpa using e2
   rw [e2]; rfl
  have e2:isV m=true:=by simpa using e2
  rw [e2] at hJ
  dsimp only [ZR,DK.p]
  refine ZF (cd:=cP) (x:=k.pf) a2.ob (i:=6) rfl ?_
  refine a2.ldWho ?_
  obtain ⟨cF,hF,wF⟩:=w.firm_sub (o2.mem (by simp))
  refine ZXf hF wF (hJ _ _ ⟨a2,?_⟩)
  simp
theorem ZJm {seq:Int} {m:Msg} (a:Zt k S h l) (i:WOk N S) (hN:N≤9000) {Q:Sl→Hp→Prop} (hlo:(ZCJ (ZHA S) who m).1.outs.length≤1000000) (hq:∀ s d h',Zt k (doD S who seq m).1 h' (d::l)→Own ZCL d s (doD S who seq m).2→Q s h'):
 ZA TP 49 [Value.pointer k.p,Value.int .i64 who,Value.int .i64 seq,ZAY.enc m] cSl h Q:=by
 refine c49 ?_
 unfold F49
 unfold doD at hq
 refine ZQ rfl ?_
 refine a.new fun k1 h1 a1=>?_
 obtain ⟨D,o1,w1⟩:=a1
 obtain ⟨o2,o3⟩:=On.joined (cs:=[Go.Eng.ob k1 [Value.int .i64 who,Value.int .i64 0,Value.slice none 0 0] 191,Hp.emp]) (l:=D::l) ((o1.emp).pick [2,0,1] 3 (by decide) (by decide))
 have a2:Has k k1 who (ZHA S) h1 l:=⟨_,⟨⟨none,0,0⟩,Hp.emp,o3,Own.nil _⟩,D,o2.swap,w1⟩
 refine ZXI a2 i hN (Nat.zero_le _) fun h4 a4=>?_
 generalize ZCJ (ZHA S) who m=r at hq a4 hlo
 obtain ⟨C,⟨s,d,oc,wd⟩,a4⟩:=a4
 refine ZD (fun e=>?_) fun e=>?_
 ·rw [if_pos (by simpa using e)] at hq
  refine a4.drop.new fun k5 h5 a5=>?_
  obtain ⟨D5,o5,w5⟩:=a5
  refine ZNE (g:=Go.Eng.ob k5 [Value.int .i64 seq,Value.int .i64 r.2] 2) (s:=⟨some ⟨k5,0,none⟩,2,2⟩) (ns:=[seq,r.2]) o5 (Zf (by rfl) rfl) (by simp) (by simp) fun h6 o6=>?_
  refine ZI (vs:=(ZCL.enc (ZGh who 19 [seq,r.2])).cells.toList) o6 fun k7 h7 o7=>?_
  exact hq ⟨some ⟨k7,0,none⟩,1,1⟩ _ h7 ⟨D5,o7.pick [1,0] 3 (by decide) (by decide),w5⟩ (ZBG (rest:=[]) (by rfl) rfl (by simp))
 ·rw [if_neg (by simpa using e)] at hq
  have hC:=a4.sub (g:=C) (by simp)
  have hob:(Go.Eng.ob k1 [Value.int .i64 who,Value.int .i64 r.1.id,sv s] 191).sub h4:=Hp.sub_trans (oc.mem (by simp)) hC
  refine ZF (cd:=cI .i64) (x:=r.1.id) hob (i:=1) rfl ?_
  refine ZF (cd:=cSl) (x:=s) hob (i:=2) rfl ?_
  refine a4.new fun k5 h5 a5=>?_
  obtain ⟨D5,o5,w5⟩:=a5
  refine ZNE (g:=Go.Eng.ob k5 [Value.int .i64 seq,Value.int .i64 r.1.id] 2) (s:=⟨some ⟨k5,0,none⟩,2,2⟩) (ns:=[seq,r.1.id]) o5 (Zf (by rfl) rfl) (by simp) (by simp) fun h6 o6=>?_
  have hob6:(Go.Eng.ob k1 [Value.int .i64 who,Value.int .i64 r.1.id,sv s] 191).sub h6:=Hp.sub_trans (oc.mem (by simp)) (o6.mem (c:=C) (by simp))
  refine ⟨⟨Hp.sub_rds hob6 (ZCC (i:=2) rfl),trivial⟩,?_⟩
  refine ZI (vs:=(ZCL.enc (ZGh who 18 [seq,r.1.id])).cells.toList) o6 fun k7 h7 o7=>?_
  have w7:Own ZCL (Go.Eng.ob k7 (ZCL.enc (ZGh who 18 [seq,r.1.id])).cells.toList 78) ⟨some ⟨k7,0,none⟩,1,1⟩ [ZGh who 18 [seq,r.1.id]]:=ZBG (rest:=[]) (by rfl) rfl (by simp)
  have hdC:d.sub h7:=Hp.sub_trans (oc.mem (c:=d) (by simp)) (o7.mem (c:=C) (by simp))
  have o8:On h7 (Go.Eng.ob k7 (ZCL.enc (ZGh who 18 [seq,r.1.id])).cells.toList 78::D5::l):=o7.pick [0,1] 4 (by decide) (by decide)
  refine ZV (cd:=ZCL) (g:=d) (s:=⟨some ⟨k7,0,none⟩,1,1⟩) (t:=s) (ys:=r.1.outs) o8 rfl w7 (by decide) wd.row hdC ?_ fun d9 p n m h9 o9 w9=>?_
  ·refine Nat.le_trans (Nat.mul_le_mul_right _ (show _≤1000001 from ?_)) (by decide)
   show 1+r.1.outs.length≤_
   omega
  ·exact hq ⟨p,n,m⟩ d9 h9 ⟨D5,o9.swap,w5⟩ w9
end
def ZDY (who:Int) (st:List ZE×List Out) (o:ZE):List ZE×List Out:=if o.Owner=who then (ZBu st.1 o.ID,st.2++[ZGh who 21 [o.ID,o.Left]]) else st
def ZAK (who s:Int) (st:List ZE×List Out):List ZE×List Out:=(ZAZ st.1 s).foldl (ZDY who) st
def ZAA (who:Int) (st:List ZE×List Out):List ZE×List Out:=ZAK who 2 (ZAK who 1 st)
def ZAh (who:Int) (acc:List (List ZE)×List Out) (b:List ZE):List (List ZE)×List Out:=(acc.1++[(ZAA who (b,acc.2)).1],(ZAA who (b,acc.2)).2)
def ZCB (who:Int) (bs:List (List ZE)):List (List ZE)×List Out:=bs.foldl (ZAh who) ([],[])
def goneQ (S:DS) (q:Za):DS:=if ZFU S q=true then S else {S with quotes:=killQ S.quotes q.ID}
def ZAU (S:DS) (who:Int):DS×List Out:=((S.quotes.filter (ofQ who)).foldl goneQ {S with books:=(ZCB who S.books).1},(ZCB who S.books).2)
theorem ZHp (who:Int):∀ (os:List ZE) (st:List ZE×List Out),(os.foldl (ZDY who) st).1.Sublist st.1∧(os.foldl (ZDY who) st).2.length≤st.2.length+os.length
 | [],st=>⟨List.Sublist.refl _,Nat.le_refl _⟩
 | o::os,st=>by
   have h:=ZHp who os (ZDY who st o)
   have h1:(ZDY who st o).1.Sublist st.1∧(ZDY who st o).2.length≤st.2.length+1:=by
    unfold ZDY
    split
    ·exact ⟨ZAj _ _,by simp⟩
    ·exact ⟨List.Sublist.refl _,by omega⟩
   rw [List.foldl_cons,List.length_cons]
   exact ⟨h.1.trans h1.1,by omega⟩
theorem ZBa (who s:Int) (st:List ZE×List Out):(ZAK who s st).1.Sublist st.1∧(ZAK who s st).2.length≤st.2.length+st.1.length:=by
 have:=ZHp who (ZAZ st.1 s) st
 have h:=ZBl st.1 s
 unfold ZAK
 exact ⟨this.1,by omega⟩
theorem ZBW (who:Int) (st:List ZE×List Out):(ZAA who st).1.Sublist st.1∧(ZAA who st).2.length≤st.2.length+2*st.1.length:=by
 have h1:=ZBa who 1 st
 have h2:=ZBa who 2 (ZAK who 1 st)
 have:=h1.1.length_le
 unfold ZAA
 exact ⟨h2.1.trans h1.1,by omega⟩
section
variable {k:DK} {S:DS} {b:Nat} {who:Int} {c:DC} {h:Hp} {l:List Hp} {N:Nat}
theorem ZQQ {to kind id:Int} {ns:List Int} {outs:List Out} {C:Hp} (o:On h (C::l)) (wc:ZEZ b who id outs C) (hn:ns.length≤6) (hl:outs.length≤1000000) {Q:PUnit→Hp→Prop} (hq:∀ C' h',On h' (C'::l)→ZEZ b who id (outs++[ZGh to kind ns]) C'→Q ⟨⟩ h'):
 ZL (.cells (ZG (cI .i64) ns).toArray 2 (0,0)) h fun k1 h1=>ZA TP 86 [Value.pointer (some ⟨b,0,none⟩),Value.int .i64 to,Value.int .i64 kind,Value.slice (some ⟨k1,0,none⟩) ns.length ns.length] (ZW []) h1 Q:=by
 refine ZI o fun k0 h0 o0=>?_
 obtain ⟨s1,d,oc,wd⟩:=wc
 refine c86 (p3:=⟨some ⟨k0,0,none⟩,ns.length,ns.length⟩) ?_
 unfold F86
 have o1:On h0 (Go.Eng.ob b [Value.int .i64 who,Value.int .i64 id,sv s1] 191::d::Go.Eng.ob k0 (ZG (cI .i64) ns) 2::l):=o0.swap.split oc
 dsimp only [ZR]
 refine ZJ (x:=s1) o1 0 (i:=2) rfl rfl ?_
 refine ZNE (g:=Go.Eng.ob k0 (ZG (cI .i64) ns) 2) (s:=⟨some ⟨k0,0,none⟩,ns.length,ns.length⟩) o1 (Zf rfl rfl) (by simp) hn fun h2 o2=>?_
 refine ⟨⟨Hp.sub_rds (o2.get (i:=0) rfl) (ZCC (i:=2) rfl),trivial⟩,?_⟩
 refine ZI o2 fun k3 h3 o3=>?_
 refine ZV (cd:=ZCL) (g:=Go.Eng.ob k3 (ZCL.enc (ZGh to kind ns)).cells.toList 78) (s:=s1) (t:=⟨some ⟨k3,0,none⟩,1,1⟩) (ys:=[ZGh to kind ns]) (o3.rot3) rfl wd (by decide) (Zf (by rfl) rfl) (o3.get (i:=0) rfl) ?_ fun d4 p n m h4 o4 w4=>?_
 ·rw [List.length_singleton]
  exact Nat.le_trans (Nat.mul_le_mul_right _ (show _≤1000001 by omega)) (by decide)
 ·refine ZZ (cd:=cSl) (i:=2) (x:=⟨p,n,m⟩) (vs':=[Value.int .i64 who,Value.int .i64 id,sv ⟨p,n,m⟩]) (o4.rot3) rfl rfl (by show 2+1≤3; omega) fun h5 o5=>?_
  have o6:On h5 (Go.Eng.ob b [Value.int .i64 who,Value.int .i64 id,sv ⟨p,n,m⟩] 191::d4::l):=o5.pick [0,1] 4 (by decide) (by decide)
  obtain ⟨o7,o8⟩:=On.joined (cs:=[Go.Eng.ob b [Value.int .i64 who,Value.int .i64 id,sv ⟨p,n,m⟩] 191,d4]) (l:=l) o6
  exact hq _ h5 o7 ⟨_,d4,o8,w4⟩
theorem ZMP {s:Int} {q:Option Addr} {xs:List ZE} {outs:List Out} {cb R C:Hp} {m:Int} (o:On h (cb::C::R::l)) (w:Zh q xs cb) (wc:ZEZ b 0 0 outs C) (hb:ZAd m xs) (hl:outs.length≤900000) {K:Hp→Prop}
 (hK:∀ cb' C' h',On h' (cb'::C'::R::l)→Zh q (ZAK who s (xs,outs)).1 cb'→ZEZ b 0 0 (ZAK who s (xs,outs)).2 C'→K h'):
 ZA TP 20 [Value.pointer q,Value.int .i64 s] cSl h fun s2 h5=>Zg (0:Int) h5 fun (J3:Int→Hp→Prop) n4 h6=>ZB (decide (n4<(s2.len:Int)))
   (ZX (fun (u1:PUnit) h7=>J3 (IntKind.i64.wrap (n4+1)) h7) fun J4=>Zi s2.a s2.len n4 fun a4=>ZC ZK (a4.add (n4.toNat*6)) h6 fun x1=>ZB (x1.Owner==who)
     (ZA TP 85 [Value.pointer q,Value.int IntKind.i64 x1.ID] (ZW [ZK,cB]) h6 fun z1 h8=>ZL (Obj.cells {toList:=[Value.int IntKind.i64 x1.ID,Value.int IntKind.i64 x1.Left]} 2) h8 fun k3 h9=>
       ZA TP 86 [Value.pointer (some {block:=b,off:=0}),Value.int IntKind.i64 who,Value.int IntKind.i64 21,Value.slice (some {block:=k3,off:=0}) 2 2] (ZW []) h9 fun u2 h10=>J4 PUnit.unit h10)
     (J4 PUnit.unit h6)) (K h6):=by
 refine ZDN o w hb.1 (by have:=hb.2.2.1; omega) fun s2 c2 d2 h2 o2 w2 wd=>?_
 have hlen:=wd.1
 have hsl:=ZBl xs s
 have hxl:=hb.2.2.1
 unfold ZAK at hK
 dsimp only at hK
 generalize hys:ZAZ xs s=ys at*
 refine Zb (fun z h'=>∃ (j:Nat) (cb C:Hp),z=(j:Int)∧j≤ys.length∧On h' (cb::C::d2::R::l)∧Zh q ((ys.take j).foldl (ZDY who) (xs,outs)).1 cb∧ZEZ b 0 0 ((ys.take j).foldl (ZDY who) (xs,outs)).2 C) (fun z=>ys.length-z.toNat)
  ⟨0,c2,C,rfl,Nat.zero_le _,o2.pick [0,2,1] 3 (by decide) (by decide),w2,wc⟩ ?_
 rintro J z h3 again ⟨j,cb3,C3,rfl,hj,o3,w3,wc3⟩
 refine ZH (fun hlt=>?_) fun hge=>?_
 ·have hj':j<ys.length:=by omega
  have a0:ys[j]?=some ys[j]:=List.getElem?_eq_getElem hj'
  have est:=Z5 (ZDY who) (xs,outs) ys a0
  have hsub:=ZHp who (ys.take j) (xs,outs)
  have hs1:=hsub.1.length_le
  have hs2:=hsub.2
  rw [List.length_take] at hs2
  dsimp only at hs1 hs2
  generalize (ys.take j).foldl (ZDY who) (xs,outs)=st at*
  rw [ZAH (by omega)]
  refine ZN (fun _ h'=>∃ cb C,On h' (cb::C::d2::R::l)∧Zh q (ZDY who st ys[j]).1 cb∧ZEZ b 0 0 (ZDY who st ys[j]).2 C) ?_ fun J4 hJ4=>?_
  ·rintro _ h' ⟨cb4,C4,o4,w4,wc4⟩
   exact again _ _ ⟨j+1,cb4,C4,rfl,by omega,o4,by rw [est]; exact w4,by rw [est]; exact wc4⟩ (by omega)
  ·refine ZM wd.row (Int.natCast_nonneg j) (by omega) fun p hp=>ZO wd.row (o3.mem (by simp)) rfl hp (i:=j) a0 (by rfl) ?_
   unfold ZDY at hJ4
   refine ZD (fun e=>?_) fun e=>?_
   ·rw [if_pos (by simpa using e)] at hJ4
    refine ZFM o3 w3 (by omega) fun c5 h5 o5 w5=>?_
    refine ZQQ (ns:=[ys[j].ID,ys[j].Left]) o5.swap wc3 (by simp) (by omega) fun C6 h6 o6 w6=>?_
    exact hJ4 _ _ ⟨c5,C6,o6.swap,w5,w6⟩
   ·rw [if_neg (by simpa using e)] at hJ4
    exact hJ4 _ _ ⟨cb3,C3,o3,w3,wc3⟩
 ·have:j=ys.length:=by omega
  subst this
  rw [List.take_length] at w3 wc3
  exact hK cb3 C3 h3 (o3.pick [0,1,3] 4 (by decide) (by decide)) w3 wc3
end
def ZKA (who:Int) (st:List ZE×List Out):Nat→List ZE×List Out
 | 0=>st
 | 1=>ZAK who 1 st
 | _=>ZAA who st
theorem ZPR (who:Int) (st:List ZE×List Out) (t:Nat):(ZKA who st t).1.Sublist st.1∧(ZKA who st t).2.length≤st.2.length+2*st.1.length:=by
 unfold ZKA
 split
 ·exact ⟨List.Sublist.refl _,by omega⟩
 ·have:=ZBa who 1 st
  exact ⟨this.1,by omega⟩
 ·exact ZBW who st
theorem ZEo (who:Int):∀ (bs:List (List ZE)) (acc:List (List ZE)×List Out),(bs.foldl (ZAh who) acc).1.length=acc.1.length+bs.length
 | [],acc=>rfl
 | b::bs,acc=>by
   rw [List.foldl_cons,ZEo who bs]
   simp [ZAh]
   omega
section
variable {k:DK} {S:DS} {b:Nat} {who:Int} {c:DC} {h:Hp} {l:List Hp} {N:Nat}
theorem WOk.goneQ {q:Za} (i:WOk N S):WOk N (Go.Proofs.YtkmniidiifpdgaaGreat.goneQ S q):=by
 unfold Go.Proofs.YtkmniidiifpdgaaGreat.goneQ
 split
 ·exact i
 ·exact i.kill q.ID
theorem ZHV (a:Zt k S h l) (i:WOk N S) (hN:N≤10000) {Q:Sl→Hp→Prop} (hq:∀ s d h',Zt k (ZAU S who).1 h' (d::l)→Own ZCL d s (ZAU S who).2→WOk N (ZAU S who).1→(ZAU S who).2.length≤1000→Q s h'):
 ZA TP 51 [Value.pointer k.p,Value.int .i64 who] cSl h Q:=by
 refine c51 ?_
 unfold F51
 refine ZQ rfl ?_
 refine a.new fun k1 h1 a1=>?_
 have hbl:=i.bl4
 have hskl:k.sk.len=S.books.length:=by
  obtain ⟨D,o,dB,dP,dK,cF,cQ,cA,cD,cO,cT,ks,cs,oc,wB,wP,wK,wF,wQ,wA,wD,wO,wT,wb⟩:=a
  rw [←wb.1]; exact wK.1
 obtain ⟨D,o1,w1⟩:=a1
 obtain ⟨o2,o3⟩:=On.joined (cs:=[Go.Eng.ob k1 [Value.int .i64 0,Value.int .i64 0,Value.slice none 0 0] 191,Hp.emp]) (l:=D::l) ((o1.emp).pick [2,0,1] 3 (by decide) (by decide))
 have wc:ZEZ k1 0 0 [] _:=⟨⟨none,0,0⟩,Hp.emp,o3,Own.nil _⟩
 have a2:Zt k S h1 (_::l):=⟨D,o2.swap,w1⟩
 dsimp only [ZR,DK.p]
 refine ZF (cd:=cSl) (x:=k.sk) a2.ob (i:=5) rfl ?_
 refine Zb (fun z h'=>∃ (j:Nat) (C:Hp),z=(j:Int)∧j≤S.books.length∧ZEZ k1 0 0 ((S.books.take j).foldl (ZAh who) ([],[])).2 C∧Zt k {S with books:=((S.books.take j).foldl (ZAh who) ([],[])).1++S.books.drop j} h' (C::l)∧
  WOk N {S with books:=((S.books.take j).foldl (ZAh who) ([],[])).1++S.books.drop j}∧((S.books.take j).foldl (ZAh who) ([],[])).2.length≤128*j) (fun z=>S.books.length-z.toNat)
  ⟨0,_,rfl,Nat.zero_le _,wc,a2,i,Nat.le_refl _⟩ ?_
 rintro J z h2 again ⟨j,C,rfl,hj,wc,a3,i3,hol⟩
 refine ZH (fun hlt=>?_) fun hge=>?_
 ·have hj':j<S.books.length:=by omega
  have a0:S.books[j]?=some S.books[j]:=List.getElem?_eq_getElem hj'
  have est:=Z5 (ZAh who) ([],[]) S.books a0
  have hal:=ZEo who (S.books.take j) ([],[])
  rw [List.length_take] at hal
  have hbk:=i.books _ (List.getElem_mem hj')
  generalize (S.books.take j).foldl (ZAh who) ([],[])=acc at*
  have hal:acc.1.length=j:=by simp at hal; omega
  have hlt3:j<(acc.1++S.books.drop j).length:=by rw [List.length_append,List.length_drop]; omega
  have hget:(acc.1++S.books.drop j)[j]=S.books[j]:=by
   rw [List.getElem_append_right (by omega)]
   simp [hal]
  obtain ⟨_,cb,R,q,o4,w4,hld,cl⟩:=a3.book2 (i:=j) hlt3
  have hget':({S with books:=acc.1++S.books.drop j}:DS).books[j]=S.books[j]:=hget
  rw [hget'] at w4
  refine hld ?_
  refine ZI o4 fun k2 h5 o5=>?_
  have o5:On h5 (cb::C::R::Go.Eng.ob k2 [Value.int .i64 1,Value.int .i64 2] 3::l):=o5.pick [1,3,2,0] 4 (by decide) (by decide)
  refine Zb (fun z h'=>∃ (t:Nat) (cb C:Hp),z=(t:Int)∧t≤2∧On h' (cb::C::R::Go.Eng.ob k2 [Value.int .i64 1,Value.int .i64 2] 3::l)∧Zh q (ZKA who (S.books[j],acc.2) t).1 cb∧ZEZ k1 0 0 (ZKA who (S.books[j],acc.2) t).2 C) (fun z=>2-z.toNat)
   ⟨0,cb,C,rfl,by omega,o5,w4,wc⟩ ?_
  rintro J2 z h6 again2 ⟨t,cb6,C6,rfl,ht,o6,w6,wc6⟩
  have hsub:=ZPR who (S.books[j],acc.2) t
  have hxl:=hbk.2.2.1
  refine ZH (fun hlt2=>?_) fun hge2=>?_
  ·have ht2:t<2:=by omega
   have hrow:Row (cI .i64) (Go.Eng.ob k2 [Value.int .i64 1,Value.int .i64 2] 3) ⟨some ⟨k2,0,none⟩,2,2⟩ [1,2]:=Zf (by rfl) rfl
   have hv:([1,2]:List Int)[t]?=some ((t:Int)+1):=by
    rcases (show t=0∨t=1 by omega) with rfl|rfl<;>rfl
   refine ZM hrow (Int.natCast_nonneg t) (by simp; omega) fun p hp=>ZO hrow (o6.mem (by simp)) rfl hp (i:=t) hv rfl ?_
   refine ZMP (m:=S.seq) o6 w6 wc6 (hbk.sub hsub.1) (by dsimp only at hsub; omega) fun cb7 C7 h7 o7 w7 wc7=>?_
   rw [ZAH (by omega)]
   refine again2 _ _ ⟨t+1,cb7,C7,rfl,by omega,o7,?_,?_⟩ (by omega)
   ·rcases (show t=0∨t=1 by omega) with rfl|rfl
    ·exact w7
    ·exact w7
   ·rcases (show t=0∨t=1 by omega) with rfl|rfl
    ·exact wc7
    ·exact wc7
  ·have ht2:t=2:=by omega
   subst ht2
   have a7:=cl h6 cb6 _ _ (o6.pick [0,2,1] 4 (by decide) (by decide)) w6
   have eset:(acc.1++S.books.drop j).set j (ZAA who (S.books[j],acc.2)).1=(ZAh who acc S.books[j]).1++S.books.drop (j+1):=by
    rw [List.set_append_right _ _ (by omega),hal,Nat.sub_self,List.drop_eq_getElem_cons hj']
    show acc.1++((ZAA who (S.books[j],acc.2)).1::S.books.drop (j+1))=(acc.1++[(ZAA who (S.books[j],acc.2)).1])++S.books.drop (j+1)
    simp
   rw [ZAH (by omega)]
   refine again _ _ ⟨j+1,C6,rfl,by omega,by rw [est]; exact wc6,?_,?_,?_⟩ (by omega)
   ·rw [est,←eset]; exact a7
   ·rw [est,←eset]
    exact i3.book (n:=j) (hbk.sub hsub.1)
   ·rw [est]
    show (ZAA who (S.books[j],acc.2)).2.length≤_
    have:=(ZBW who (S.books[j],acc.2)).2
    dsimp only at this
    omega
 ·have hje:j=S.books.length:=by omega
  subst hje
  rw [List.take_length,List.drop_length,List.append_nil] at a3 i3
  rw [List.take_length] at wc hol
  have hacc:S.books.foldl (ZAh who) ([],[])=ZCB who S.books:=rfl
  rw [hacc] at wc a3 i3 hol
  unfold ZAU at hq
  dsimp only at hq
  generalize ZCB who S.books=acc at*
  have hd:=i.due hN
  refine ZF (cd:=cP) (x:=k.pq) a3.ob (i:=7) rfl ?_
  obtain ⟨cq,R,o4,w4,cl⟩:=a3.quotes
  have hl1:=i.l1
  refine ZYO o4 w4 (by show S.quotes.length≤_; omega) fun s5 c5 d5 h5 o5 w5 wd5=>?_
  have a5:=cl h5 c5 _ _ (o5.pick [0,2,1] 3 (by decide) (by decide)) w5
  have a5:Zt k {S with books:=acc.1} h5 (d5::C::l):=a5
  have wd5:Own ZT d5 s5 (S.quotes.filter (ofQ who)):=wd5
  have hql:(S.quotes.filter (ofQ who)).length≤S.quotes.length:=List.length_filter_le _ _
  generalize S.quotes.filter (ofQ who)=qs at*
  have hlen:=wd5.1
  refine Zb (fun z h'=>∃ j:Nat,z=(j:Int)∧j≤qs.length∧Zt k ((qs.take j).foldl Go.Proofs.YtkmniidiifpdgaaGreat.goneQ {S with books:=acc.1}) h' (d5::C::l)∧WOk N ((qs.take j).foldl Go.Proofs.YtkmniidiifpdgaaGreat.goneQ {S with books:=acc.1})) (fun z=>qs.length-z.toNat)
   ⟨0,rfl,Nat.zero_le _,a5,i3⟩ ?_
  rintro J5 z h6 again ⟨j,rfl,hj,a6,i6⟩
  refine ZH (fun hlt=>?_) fun hge=>?_
  ·have hj':j<qs.length:=by omega
   have a0:qs[j]?=some qs[j]:=List.getElem?_eq_getElem hj'
   have est:=Z5 Go.Proofs.YtkmniidiifpdgaaGreat.goneQ {S with books:=acc.1} qs a0
   generalize (qs.take j).foldl Go.Proofs.YtkmniidiifpdgaaGreat.goneQ {S with books:=acc.1}=T at*
   rw [ZAH (by omega)]
   refine ZN (fun _ h'=>Zt k (Go.Proofs.YtkmniidiifpdgaaGreat.goneQ T qs[j]) h' (d5::C::l)) ?_ fun J6 hJ6=>?_
   ·rintro _ h' a'
    exact again _ _ ⟨j+1,rfl,by omega,by rw [est]; exact a',by rw [est]; exact i6.goneQ⟩ (by omega)
   ·refine ZM wd5.row (Int.natCast_nonneg j) (by omega) fun p hp=>ZO wd5.row (a6.sub (by simp)) rfl hp (i:=j) a0 (by rfl) ?_
    refine ZHk (q:=qs[j]) a6 i6 hN fun h7 a7=>?_
    unfold Go.Proofs.YtkmniidiifpdgaaGreat.goneQ at hJ6
    refine ZD (fun e=>?_) fun e=>?_
    ·rw [if_neg (by simpa using e)] at hJ6
     refine ZF (cd:=cP) (x:=k.pq) a7.ob (i:=7) rfl ?_
     refine a7.killQ i6 hN fun t h8 a8=>?_
     refine ZF (cd:=cP) (x:=k.pd) a8.ob (i:=9) rfl ?_
     exact a8.dropDue (i6.due hN) fun t h9 a9=>hJ6 _ _ a9
    ·rw [if_pos (by simpa using e)] at hJ6
     exact hJ6 _ _ a7
  ·have hje:j=qs.length:=by omega
   subst hje
   rw [List.take_length] at a6 i6
   obtain ⟨s,d,oc,wd⟩:=wc
   have hC:=a6.sub (g:=C) (by simp)
   have hob:(Go.Eng.ob k1 [Value.int .i64 0,Value.int .i64 0,sv s] 191).sub h6:=Hp.sub_trans (oc.mem (by simp)) hC
   refine ZF (cd:=cSl) (x:=s) hob (i:=2) rfl ?_
   obtain ⟨D6,o7,w7⟩:=a6
   have o8:On h6 (C::D6::l):=o7.pick [2,0] 3 (by decide) (by decide)
   have o9:On h6 (Go.Eng.ob k1 [Value.int .i64 0,Value.int .i64 0,sv s] 191::d::D6::l):=o8.split oc
   exact hq s d h6 ⟨D6,o9.pick [2,1] 3 (by decide) (by decide),w7⟩ wd i6 (by omega)
end
structure ZDX (S T:DS):Prop where
 bonds:T.bonds=S.bonds
 parties:T.parties=S.parties
 look:T.look=S.look
 books:T.books=S.books
 used:T.used=S.used
 trades:T.trades=S.trades
 order:T.order=S.order
 seq:T.seq=S.seq
 asks:∀ a∈T.asks,∃ a0∈S.asks,a0.ID=a.ID∧a0.Bond=a.Bond∧a0.Side=a.Side∧a0.Qty=a.Qty∧a0.Client=a.Client
theorem ZDX.refl (S:DS):ZDX S S:=⟨rfl,rfl,rfl,rfl,rfl,rfl,rfl,rfl,fun a ha=>⟨a,ha,rfl,rfl,rfl,rfl,rfl⟩⟩
theorem ZDX.trans {S T U:DS} (h:ZDX S T) (g:ZDX T U):ZDX S U:=
 ⟨by rw [g.bonds,h.bonds],by rw [g.parties,h.parties],by rw [g.look,h.look],by rw [g.books,h.books],by rw [g.used,h.used],by rw [g.trades,h.trades],by rw [g.order,h.order],by rw [g.seq,h.seq],fun a ha=>by
   obtain ⟨b,hb,e1,e2,e3,e4,e5⟩:=g.asks a ha
   obtain ⟨d,hd,f1,f2,f3,f4,f5⟩:=h.asks b hb
   exact ⟨d,hd,by rw [f1,e1],by rw [f2,e2],by rw [f3,e3],by rw [f4,e4],by rw [f5,e5]⟩⟩
theorem ZDX.quotes (S:DS) (xs:List Za):ZDX S {S with quotes:=xs}:=⟨rfl,rfl,rfl,rfl,rfl,rfl,rfl,rfl,fun a ha=>⟨a,ha,rfl,rfl,rfl,rfl,rfl⟩⟩
theorem ZDX.upd (S:DS) (id:Int) {f:Ask→Ask} (hf:∀ x,(f x).ID=x.ID∧(f x).Bond=x.Bond∧(f x).Side=x.Side∧(f x).Qty=x.Qty∧(f x).Client=x.Client):ZDX S {S with asks:=upd Ask.ID id f S.asks}:=
 ⟨rfl,rfl,rfl,rfl,rfl,rfl,rfl,rfl,fun a ha=>by
   obtain ⟨x,hx,rfl|⟨_,rfl⟩⟩:=ZHd ha
   ·exact ⟨a,hx,rfl,rfl,rfl,rfl,rfl⟩
   ·have:=hf x
    exact ⟨x,hx,this.1.symm,this.2.1.symm,this.2.2.1.symm,this.2.2.2.1.symm,this.2.2.2.2.symm⟩⟩
theorem ZDX.end (S:DS) (id st:Int):ZDX S {S with asks:=(ZP6 S.asks id st).1}:=by
 rcases ZF1 S.asks id st with e|e<;>rw [e]
 ·exact ZDX.refl S
 ·exact ZDX.upd S id fun x=>⟨rfl,rfl,rfl,rfl,rfl⟩
theorem ZDX.back (S:DS) (id:Int):ZDX S {S with asks:=(ZGX S.asks id).1}:=by
 rcases ZEw S.asks id with e|e<;>rw [e]
 ·exact ZDX.refl S
 ·exact ZDX.upd S id fun x=>⟨rfl,rfl,rfl,rfl,rfl⟩
def ZDm (os:List Out):Prop:=∀ o∈os,o.Msg_Kind=25∨o.Msg_Kind=27
theorem ZDm.add {os:List Out} (h:ZDm os) {to kind:Int} {ns:List Int} (hk:kind=25∨kind=27):ZDm (os++[ZGh to kind ns]):=fun o ho=>(List.mem_append.1 ho).elim (h o) fun e=>by
 simp only [List.mem_singleton] at e
 subst e
 exact hk
theorem ZK5 {N:Nat} {c:DC} (x:Ask) (i:WOk N c.d):ZDX c.d (ZJZ c x).d∧WOk N (ZJZ c x).d∧(ZDm c.outs→ZDm (ZJZ c x).outs)∧(ZJZ c x).outs.length=c.outs.length+1:=
 ⟨(ZDX.end c.d x.ID 4).trans (ZDX.quotes _ _),(i.end x.ID 4).clear x.ID,fun h=>h.add (.inr rfl),by simp [ZJZ,ZBs,ZUk]⟩
theorem ZI7 {N:Nat} {c:DC} (x:Ask) (i:WOk N c.d):ZDX c.d (ZAT c x).d∧WOk N (ZAT c x).d∧(ZDm c.outs→ZDm (ZAT c x).outs)∧(ZAT c x).outs.length=c.outs.length+1:=by
 unfold ZAT
 split
 ·have:=ZK5 (c:=ZFk c x.Hit) x (i.kill x.Hit)
  exact ⟨(ZDX.quotes c.d _).trans this.1,this.2⟩
 ·refine ⟨(ZDX.quotes c.d (killQ c.d.quotes x.Hit)).trans (ZDX.back (ZFk c x.Hit).d x.ID),(i.kill x.Hit).back x.ID,fun h=>h.add (.inl rfl),by simp [ZBs,ZFk]⟩
theorem ZDS (x:Int):I64 (IntKind.i64.wrap x):=by
 unfold I64
 simp only [IntKind.wrap,IntKind.signed,IntKind.bits]
 simp
 split<;>omega
def ZDn (bs:List Bond) (ps:List Z3) (look beat:Int):DS:=⟨bs,ps,look,beat,0,List.replicate bs.length [],List.replicate ps.length 0,[],[],0,[],0,0,0,0⟩
theorem ZUQ {b:Bond} (h:ZL0 b=true):1≤b.Tick∧1≤b.Lot∧1≤b.Low∧b.High≤1000000∧1≤b.Min∧b.Max≤1000000:=by
 unfold ZL0 inB at h
 simp only [Bool.and_eq_true,decide_eq_true_eq] at h
 omega
theorem ZDV {bs:List Bond} {ps:List Z3} {look beat:Int} (h:ZCt bs ps look beat=true):WOk 0 (ZDn bs ps look beat):=by
 unfold ZCt at h
 simp only [Bool.and_eq_true] at h
 obtain ⟨h1,h2,h3,_⟩:=h
 unfold inB at h1 h2
 have h1:=of_decide_eq_true h1
 have h2:=of_decide_eq_true h2
 have h3:bs.any (fun b=>!ZL0 b)=false:=by simpa using h3
 exact {
  bonds:=fun b hb=>ZUQ (by have:=List.any_eq_false.1 h3 b hb; simpa using this)
  bl:=List.length_replicate
  bl4:=by show (List.replicate bs.length ([]:List ZE)).length≤4; rw [List.length_replicate]; omega
  books:=fun b hb=>by
   have:=List.eq_of_mem_replicate hb
   subst this
   exact ⟨List.nodup_nil,(fun x hx=>by cases hx),Nat.zero_le _,fun x hx=>by cases hx⟩
  pl:=by show ps.length≤8; omega
  qs:=List.Pairwise.nil
  qi:=fun q hq=>by cases hq
  sa:=List.Pairwise.nil
  ai:=fun q hq=>by cases hq
  c1:=⟨Int.le_refl 0,Int.le_refl 0⟩
  c2:=⟨Int.le_refl 0,Int.le_refl 0⟩
  c3:=⟨Int.le_refl 0,Int.le_refl 0⟩
  c4:=⟨Int.le_refl 0,Int.le_refl 0⟩
  l1:=Nat.le_refl 0
  l2:=Nat.le_refl 0
  l3:=Nat.le_refl 0
  l4:=Nat.le_refl 0
  now:=(show I64 0 from ⟨by decide,by decide⟩)}
theorem Books.push {ps:List (Option Addr)} {bs:List (List ZE)} {cs:List Hp} (w:Books ps bs cs) {p:Option Addr} {b:List ZE} {c:Hp} (hb:Zh p b c):Books (ps++[p]) (bs++[b]) (cs++[c]):=by
 obtain ⟨h1,h2,h3⟩:=w
 refine ⟨by simp [h1],by simp [h2],fun j p' b' c' e1 e2 e3=>?_⟩
 by_cases hj:j<bs.length
 ·rw [List.getElem?_append_left (by omega)] at e1 e2 e3
  exact h3 j p' b' c' e1 e2 e3
 ·have hj':j=bs.length:=by
   have:=(List.getElem?_eq_some_iff.1 e2).1
   simp at this
   omega
  subst hj'
  rw [List.getElem?_append_right (by omega)] at e1 e2 e3
  rw [h1,Nat.sub_self] at e1
  rw [Nat.sub_self] at e2
  rw [h2,Nat.sub_self] at e3
  cases e1; cases e2; cases e3
  exact hb
section
variable {k:DK} {S:DS} {h:Hp} {l:List Hp} {N:Nat}
theorem ZWn (o:On h l) {Q:Option Addr→Hp→Prop} (hq:∀ p c h',On h' (c::l)→ZAt p [] c→Q p h'):ZA TP 37 [] Go.Eng.cP h Q:=by
 refine c37 ?_
 unfold F37
 refine ZI o fun k h1 o1=>?_
 obtain ⟨c,o2,w⟩:=ZAR.new (cd:=ZAM) o1
 exact hq _ c h1 o2 w
theorem ZXE (o:On h l) {Q:Option Addr→Hp→Prop} (hq:∀ p c h',On h' (c::l)→Zu p [] c→Q p h'):ZA TP 36 [] Go.Eng.cP h Q:=by
 refine c36 ?_
 unfold F36
 refine ZI o fun k h1 o1=>?_
 obtain ⟨c,o2,w⟩:=ZAR.new (cd:=ZT) o1
 exact hq _ c h1 o2 w
theorem ZIi {sb sp:Sl} {gb gp:Hp} {bs:List Bond} {ps:List Z3} {look beat:Int} (o:On h l) (hb:gb∈l) (rb:Row Z8 gb sb bs) (hp:gp∈l) (rp:Row Z0 gp sp ps) (hr:ZCt bs ps look beat=true)
 {Q:Option Addr→Hp→Prop} (hq:∀ k h',Zt k (ZDn bs ps look beat) h' l→Q k.p h'):ZA TP 8 [ZAg.enc ⟨sb,sp,look,beat⟩] Go.Eng.cP h Q:=by
 have hi:=ZDV hr
 have hbl:bs.length≤4:=by have:=hi.bl4; unfold ZDn at this; simpa using this
 have hpl:ps.length≤8:=hi.pl
 have hr1:1≤bs.length∧1≤ps.length:=by
  unfold ZCt inB at hr
  simp only [Bool.and_eq_true,decide_eq_true_eq] at hr
  omega
 refine c8 (p0:=⟨sb,sp,look,beat⟩) ?_
 unfold F8
 refine ZOP o hb rb hp rp (by omega) (by omega) hr fun pF cF h1 o1 wF=>?_
 refine ZQ (by obtain ⟨b,s1,s2,d1,d2,rfl,_⟩:=wF; rfl) ?_
 refine ZQ7 o1 (by simp [hb]) rb (by omega) fun s2 dB h2 o2 wB=>?_
 refine ZJw o2 (by simp [hp]) rp (by omega) fun s3 dP h3 o3 wP=>?_
 refine ZXE o3 fun pQ cQ h4 o4 wQ=>?_
 refine ZWn o4 fun pA cA h5 o5 wA=>?_
 refine ZV3 o5 fun pD cD h6 o6 wD=>?_
 have hlB:=wB.1
 have hlP:=wP.1
 refine ZWK o6 ⟨by omega,by omega⟩ ⟨by omega,by omega⟩ fun pO cO h7 o7 wO=>?_
 refine ZWh o7 fun pT cT h8 o8 wT=>?_
 let kk:Nat→Sl→DK:=fun b sk=>⟨b,s2,s3,sk,pF,pQ,pA,pD,pO,pT⟩
 refine ZI (vs:=ZAF (kk 0 ⟨none,0,0⟩) (ZDn bs ps look beat)) o8 fun k9 h9 o9=>?_
 refine Zb (fun z h'=>∃ (j:Nat) (sK:Sl) (dK:Hp) (ks:List (Option Addr)) (cs:List Hp),z=(j:Int)∧j≤bs.length∧ks.length=j∧On h' (ob k9 (ZAF (kk k9 sK) (ZDn bs ps look beat)) 121::dK::(cs++(cT::cO::cD::cA::cQ::dP::dB::cF::l)))∧Own Go.Eng.cP dK sK ks∧Books ks (List.replicate j []) cs) (fun z=>bs.length-z.toNat)
  ⟨0,⟨none,0,0⟩,Hp.emp,[],[],rfl,Nat.zero_le _,rfl,o9.emp.swap,Own.nil _,⟨rfl,rfl,fun i p b c h=>by cases h⟩⟩ ?_
 rintro J z h10 again ⟨j,sK,dK,ks,cs,rfl,hj,hkl,o10,wK,wb⟩
 refine ZH (fun hlt=>?_) fun hge=>?_
 ·have hj':j<bs.length:=by omega
  refine ZJ (cd:=cSl) (x:=sK) o10 0 (i:=5) rfl rfl ?_
  refine ZRy o10 fun p7 c11 h11 o11 w11=>?_
  refine ⟨⟨Hp.sub_rds (o11.get (i:=1) rfl) (ZCC (i:=5) rfl),trivial⟩,?_⟩
  refine ZI o11 fun k12 h12 o12=>?_
  have o12':=o12.pick [3,0,2,1] 4 (by decide) (by decide)
  refine ZV (cd:=Go.Eng.cP) (g:=ob k12 [Value.pointer p7] 69) (s:=sK) (t:=⟨some ⟨k12,0,none⟩,1,1⟩) (ys:=[p7]) o12' rfl wK (by decide) (Zf (by rfl) rfl) (o12.get (i:=0) rfl) ?_ fun d13 p n m h13 o13 w13=>?_
  ·rw [List.length_singleton]
   exact Nat.le_trans (Nat.mul_le_mul_right _ (show _≤100 by omega)) (by decide)
  ·refine ZZ (cd:=cSl) (i:=5) (x:=⟨p,n,m⟩) (vs':=ZAF (kk k9 ⟨p,n,m⟩) (ZDn bs ps look beat)) (o13.pick [2,0,1,3] 4 (by decide) (by decide)) rfl rfl (by show 5+1≤16; omega) fun h14 o14=>?_
   rw [ZAH (by omega)]
   refine again _ _ ⟨j+1,⟨p,n,m⟩,d13,ks++[p7],cs++[c11],rfl,by omega,by simp [hkl],?_,w13,?_⟩ (by omega)
   ·have o15:=o14.pick [0,1,3] 4 (by decide) (by decide)
    refine o15.perm (List.Perm.cons _ (List.Perm.cons _ ?_))
    show (c11::(cs++_)).Perm ((cs++[c11])++_)
    rw [List.append_assoc]
    exact List.perm_middle.symm
   ·rw [List.replicate_succ']
    exact wb.push w11
 ·have hje:j=bs.length:=by omega
  subst hje
  have o11:On h10 (ob k9 (ZAF (kk k9 sK) (ZDn bs ps look beat)) 121::dK::cT::cO::cD::cA::cQ::dP::dB::cF::(cs++l)):=by
   refine o10.perm (List.Perm.cons _ (List.Perm.cons _ ?_))
   exact List.perm_append_comm_assoc cs [cT,cO,cD,cA,cQ,dP,dB,cF] l
  have o12:=o11.pick [0,8,7,1,9,6,5,4,3,2] 10 (by decide) (by decide)
  obtain ⟨o13,o14⟩:=On.joined (cs:=ob k9 (ZAF (kk k9 sK) (ZDn bs ps look beat)) 121::dB::dP::dK::cF::cQ::cA::cD::cO::cT::cs) (l:=l) o12
  exact hq (kk k9 sK) h10 ⟨_,o13,dB,dP,dK,cF,cQ,cA,cD,cO,cT,ks,cs,o14,wB,wP,wK,wF,wQ,wA,wD,wO,wT,wb⟩
theorem ZDW {n:Int} (a:Zt k S h l) {Q:Option Addr→Hp→Prop} (h0:isBond S n=false→Q none h)
 (h1:∀ (i:Nat) (hi:i<S.books.length) c R q,n=(i:Int)→On h (c::R::l)→Zh q S.books[i] c→(∀ h' c' l' x,On h' (c'::R::l')→Zh q x c'→Zt k {S with books:=S.books.set i x} h' l')→Q q h):ZA TP 19 [Value.pointer k.p,Value.int .i64 n] Go.Eng.cP h Q:=by
 refine c19 ?_
 unfold F19
 refine ZN (fun t h'=>h'=h∧t=!isBond S n) ?_ fun J hJ=>?_
 ·rintro t h' ⟨rfl,rfl⟩
  refine ZD (fun e=>h0 (by simpa using e)) fun e=>?_
  have e:isBond S n=true:=by simpa using e
  have hn:=ZBC.1 e
  obtain ⟨m,rfl⟩:=Int.eq_ofNat_of_zero_le hn.1
  have hm:m<S.books.length:=by omega
  obtain ⟨c,R,q,o1,w1,hld,cl⟩:=a.book hm
  dsimp only [ZR,DK.p]
  exact hld (h1 m hm c R q rfl o1 w1 cl)
 ·exact ZQ rfl (ZKb a (hJ _ _ ⟨rfl,rfl⟩))
theorem ZFe (a:Zt k S h l) (i:WOk N S) (hN:N≤10000) {Q:Sl→Hp→Prop} (hq:∀ s d h',Zt k S h' (d::l)→Own Zz d s S.trades→Q s h'):ZA TP 11 [Value.pointer k.p] cSl h Q:=by
 refine c11 ?_
 unfold F11
 refine ZQ rfl ?_
 dsimp only [ZR,DK.p]
 refine ZF (cd:=Go.Eng.cP) (x:=k.pt) a.ob (i:=11) rfl ?_
 obtain ⟨c,R,o,w,cl⟩:=a.blots
 exact ZUr o w (by have:=i.l4; omega) fun s c' d h' o' w' wd=>hq s d h' (cl h' c' _ _ (o'.pick [0,2,1] 3 (by decide) (by decide)) w') wd
theorem ZLe (a:Zt k S h l) (i:WOk N S) (hN:N≤10000) {Q:Sl→Hp→Prop} (hq:∀ s d h',Zt k S h' (d::l)→Own ZAM d s S.asks→Q s h'):ZA TP 12 [Value.pointer k.p] cSl h Q:=by
 refine c12 ?_
 unfold F12
 refine ZQ rfl ?_
 dsimp only [ZR,DK.p]
 refine ZF (cd:=Go.Eng.cP) (x:=k.pa) a.ob (i:=8) rfl ?_
 obtain ⟨c,R,o,w,cl⟩:=a.asks
 exact ZQe o w (by have:=i.l2; omega) fun s c' d h' o' w' wd=>hq s d h' (cl h' c' _ _ (o'.pick [0,2,1] 3 (by decide) (by decide)) w') wd
end
def ZFL (s:SS) (out:List (List Int)):SS×List (List Int)×Bool:=
 ((ZAp ((ZCM s).1,out,false) (ZCM s).2.1).1,(ZAp ((ZCM s).1,out,false) (ZCM s).2.1).2.1,(ZCM s).2.2||(ZAp ((ZCM s).1,out,false) (ZCM s).2.1).2.2)
theorem ZQb (s:SS):∀ f∈(ZCM s).2.1,wfF f:=by
 have o2:wfF (ZE2 2 0):=ZEr (by unfold I64; omega) (by unfold I64; omega)
 have o3:wfF (ZE2 3 0):=ZEr (by unfold I64; omega) (by unfold I64; omega)
 have o5:wfF (ZE2 5 0):=ZEr (by unfold I64; omega) (by unfold I64; omega)
 intro f hf
 unfold ZCM at hf
 split at hf
 ·cases hf
 ·split at hf
  ·rw [List.mem_singleton] at hf; subst hf; exact o5
  ·split at hf
   ·rw [List.mem_singleton] at hf; subst hf; exact o3
   ·split at hf
    ·rw [List.mem_singleton] at hf; subst hf; exact o2
    ·cases hf
theorem ZSP {p:Option Addr} {held:List Int} {lost:Nat} {s:SS} {out:List (List Int)} {c h:Hp} {l:List Hp} (o:On h (c::l)) (w:ZC7 p held lost s out c) (hb:1≤s.beat∧s.beat≤1000) (hs1:s.sent≤1000000) (hs2:s.heard≤1000000)
 {Q:Bool→Hp→Prop} (hq:∀ c' h',On h' (c'::l)→ZC7 p held lost (ZFL s out).1 (ZFL s out).2.1 c'→Q (ZFL s out).2.2 h'):ZA TP 107 [Value.pointer p] cB h Q:=by
 obtain ⟨b,pf,ps,pb,cf,cs,cb,rfl,oc,wf,ws,wb⟩:=w
 refine c107 ?_
 unfold F107
 dsimp only [ZR]
 have os:On h (ob b (Zn pf ps pb) 223::cf::cs::cb::l):=o.split oc
 refine ZQ rfl ?_
 refine ZJ (x:=ps) os 0 rfl rfl ?_
 refine ZR7 (os.pick [2,0,1,3] 4 (by decide) (by decide)) ws hb hs1 hs2 fun sl cs2 r2 h2 o2 w2 rr2=>?_
 have o2':On h2 (ob b (Zn pf ps pb) 223::cf::cs2::cb::r2::l):=o2.pick [2,3,0,4,1] 5 (by decide) (by decide)
 have hbd:=ZRX s
 refine ZHq o2' w2 wb (g:=r2) (by simp) rr2 (ZQb s) (by omega) fun cs4 cb4 h4 o4 ws4 wb4=>?_
 obtain ⟨o6,o7⟩:=On.joined (cs:=[ob b (Zn pf ps pb) 223,cf,cs4,cb4]) (l:=l) (o4.pick [0,1,2,3] 5 (by decide) (by decide))
 have hq:=hq _ h4 o6 ⟨b,pf,ps,pb,cf,cs4,cb4,rfl,o7,wf,ws4,wb4⟩
 unfold ZFL at hq
 dsimp only at hq ⊢
 refine ZD (fun e=>?_) fun e=>?_
 ·have e:(ZCM s).2.2=true:=e
  rw [e] at hq; exact hq
 ·have e:(ZCM s).2.2=false:=e
  rw [e] at hq; simpa using hq
structure LS where
 held:List Int
 lost:Nat
 s:SS
 out:List (List Int)
def ZVQ (p:Option Addr) (x:LS) (c:Hp):Prop:=ZC7 p x.held x.lost x.s x.out c
def ZJa (ps:List (Option Addr)) (bs:List LS) (cs:List Hp):Prop:=
 ps.length=bs.length∧cs.length=bs.length∧∀ (i:Nat) (p:Option Addr) (b:LS) (c:Hp),ps[i]?=some p→bs[i]?=some b→cs[i]?=some c→ZVQ p b c
theorem ZJa.set {ps:List (Option Addr)} {bs:List LS} {cs:List Hp} (w:ZJa ps bs cs) {i:Nat} {p:Option Addr} {b:LS} {c:Hp} (hp:ps[i]?=some p) (hb:ZVQ p b c):ZJa ps (bs.set i b) (cs.set i c):=by
 obtain ⟨h1,h2,h3⟩:=w
 refine ⟨by simpa using h1,by simpa using h2,fun j p' b' c' e1 e2 e3=>?_⟩
 by_cases hij:i=j
 ·subst hij
  rw [hp] at e1
  cases e1
  have hlt:i<bs.length:=by rw [←h1]; exact (List.getElem?_eq_some_iff.1 hp).1
  rw [List.getElem?_set_self hlt] at e2
  rw [List.getElem?_set_self (by omega)] at e3
  cases e2; cases e3
  exact hb
 ·rw [List.getElem?_set_ne hij] at e2 e3
  exact h3 j p' b' c' e1 e2 e3
theorem ZJa.push {ps:List (Option Addr)} {bs:List LS} {cs:List Hp} (w:ZJa ps bs cs) {p:Option Addr} {b:LS} {c:Hp} (hb:ZVQ p b c):ZJa (ps++[p]) (bs++[b]) (cs++[c]):=by
 obtain ⟨h1,h2,h3⟩:=w
 refine ⟨by simp [h1],by simp [h2],fun j p' b' c' e1 e2 e3=>?_⟩
 by_cases hj:j<bs.length
 ·rw [List.getElem?_append_left (by omega)] at e1 e2 e3
  exact h3 j p' b' c' e1 e2 e3
 ·have hj':j=bs.length:=by
   have:=(List.getElem?_eq_some_iff.1 e2).1
   simp at this
   omega
  subst hj'
  rw [List.getElem?_append_right (by omega)] at e1 e2 e3
  rw [h1,Nat.sub_self] at e1
  rw [Nat.sub_self] at e2
  rw [h2,Nat.sub_self] at e3
  cases e1; cases e2; cases e3
  exact hb
structure VK where
 b:Nat
 k:DK
 sl:Sl
 ps:List (Option Addr)
def VK.p (v:VK):Option Addr:=some ⟨v.b,0,none⟩
structure VS where
 d:DS
 ls:List LS
def ZBe (v:VK):List Value:=[Value.pointer v.k.p,sv v.sl]
def ZZL (v:VK) (dL:Hp) (ps:List (Option Addr)):Prop:=Own Go.Eng.cP dL v.sl ps∧ps=v.ps
def ZBA (v:VK) (S:VS) (h:Hp) (l:List Hp):Prop:=
 ∃ (dL D:Hp) (ps:List (Option Addr)) (cs:List Hp),On h (ob v.b (ZBe v) 152::dL::D::(cs++l))∧ZZL v dL ps∧Zy v.k S.d D∧ZJa ps S.ls cs
section
variable {v:VK} {S:VS} {h:Hp} {l:List Hp}
theorem ZBA.ob (a:ZBA v S h l):(Go.Eng.ob v.b (ZBe v) 152).sub h:=by
 obtain ⟨dL,D,ps,cs,o,_⟩:=a
 exact o.mem (by simp)
theorem ZBA.len (a:ZBA v S h l):v.sl.len=S.ls.length:=by
 obtain ⟨dL,D,ps,cs,o,w,_,wl⟩:=a
 rw [←wl.1]; exact w.1.1
theorem ZBA.sub (a:ZBA v S h l) {g:Hp} (hg:g∈l):g.sub h:=by
 obtain ⟨dL,D,ps,cs,o,_⟩:=a
 exact o.mem (by simp [hg])
theorem ZBA.perm {l':List Hp} (a:ZBA v S h l) (p:l.Perm l'):ZBA v S h l':=by
 obtain ⟨dL,D,ps,cs,o,w⟩:=a
 exact ⟨dL,D,ps,cs,o.perm (((p.append_left cs).cons _).cons _ |>.cons _),w⟩
theorem ZBA.drop {g:Hp} (a:ZBA v S h (g::l)):ZBA v S h l:=by
 obtain ⟨dL,D,ps,cs,o,w⟩:=a
 exact ⟨dL,D,ps,cs,o.sublist (((List.Sublist.append_left (List.sublist_cons_self g l) cs).cons_cons _).cons_cons _ |>.cons_cons _),w⟩
theorem ZBA.new (a:ZBA v S h l) {vs:List Value} {e:TypeId} {K:Nat→Hp→Prop} (h2:∀ b h',ZBA v S h' (Go.Eng.ob b vs e::l)→K b h'):ZL (.cells vs.toArray e (0,0)) h K:=by
 obtain ⟨dL,D,ps,cs,o,w⟩:=a
 refine ZI o fun b h' o'=>h2 b h' ⟨dL,D,ps,cs,o'.perm ?_,w⟩
 have e1:Go.Eng.ob v.b (ZBe v) 152::dL::D::(cs++Go.Eng.ob b vs e::l)=(Go.Eng.ob v.b (ZBe v) 152::dL::D::cs)++Go.Eng.ob b vs e::l:=rfl
 rw [e1]
 exact (List.perm_middle (l₁:=Go.Eng.ob v.b (ZBe v) 152::dL::D::cs) (a:=Go.Eng.ob b vs e) (l₂:=l)).symm
theorem ZBA.desk (a:ZBA v S h l):∃ R,Zt v.k S.d h (R::l)∧∀ h' l' T,Zt v.k T h' (R::l')→ZBA v {S with d:=T} h' l':=by
 obtain ⟨dL,D,ps,cs,o,w1,w2,w3⟩:=a
 have o1:On h ((Go.Eng.ob v.b (ZBe v) 152::dL::cs)++(D::l)):=by
  refine o.perm (List.Perm.cons _ (List.Perm.cons _ ?_))
  exact List.perm_middle.symm
 obtain ⟨o2,o3⟩:=On.joined o1
 refine ⟨_,⟨D,o2.swap,w2⟩,fun h' l' T a'=>?_⟩
 obtain ⟨D',o',w'⟩:=a'
 have o4:=o'.swap.split o3
 exact ⟨dL,D',ps,cs,o4.perm (List.Perm.cons _ (List.Perm.cons _ List.perm_middle)),w1,w',w3⟩
theorem ZBA.line (a:ZBA v S h l) {i:Nat} (hi:i<S.ls.length):∃ c R q,On h (c::R::l)∧v.ps[i]?=some q∧ZVQ q S.ls[i] c∧(∀ {K:Option Addr→Prop},K q→Zi v.sl.a v.sl.len (i:Int) fun a=>ZC Go.Eng.cP (a.add ((i:Int).toNat*1)) h K)∧
 ∀ h' c' l' x,On h' (c'::R::l')→ZVQ q x c'→ZBA v {S with ls:=S.ls.set i x} h' l':=by
 obtain ⟨dL,D,ps,cs,o,w1,w2,hb1,hb2,hb3⟩:=a
 have hc:cs[i]?=some cs[i]:=List.getElem?_eq_getElem (by omega)
 have hk:ps[i]?=some ps[i]:=List.getElem?_eq_getElem (by omega)
 have hx:S.ls[i]?=some S.ls[i]:=List.getElem?_eq_getElem hi
 have o1:On h ((Go.Eng.ob v.b (ZBe v) 152::dL::D::cs)++l):=o
 obtain ⟨o2,o3⟩:=On.joined o1
 obtain ⟨R,o4,_,hcl⟩:=ZPh o2 o3 (i:=i+3) hc
 refine ⟨cs[i],R,ps[i],o4,by rw [←w1.2]; exact hk,hb3 i _ _ _ hk hx hc,fun {K} hK=>?_,fun h' c' l' x o' w'=>?_⟩
 ·obtain ⟨w1,_⟩:=w1
  have:=w1.1
  refine ZM w1.row (Int.natCast_nonneg i) (by omega) fun a ha=>?_
  exact ZO w1.row (o.mem (by simp)) rfl ha (i:=i) hk rfl hK
 ·obtain ⟨D',o5,o6⟩:=hcl h' _ l' o'
  exact ⟨dL,D,ps,cs.set i c',o5.split o6,w1,w2,ZJa.set ⟨hb1,hb2,hb3⟩ hk w'⟩
theorem ZMv {n:Int} (a:ZBA v S h l) {Q:Bool→Hp→Prop} (hq:Q (decide (0≤n∧n<S.ls.length)) h):ZA TP 62 [Value.pointer v.p,Value.int .i64 n] cB h Q:=by
 refine c62 ?_
 unfold F62
 refine Zd rfl (ZH (fun h0=>?_) fun h0=>?_)
 ·dsimp only [ZR,VK.p]
  refine ZF (cd:=cSl) (x:=v.sl) a.ob (i:=1) rfl ?_
  rw [a.len]
  rwa [show decide (0≤n∧n<(S.ls.length:Int))=decide (n<(S.ls.length:Int)) from decide_eq_decide.2 (by omega)] at hq
 ·rwa [decide_eq_false (by omega)] at hq
theorem ZVG {n:Int} (a:ZBA v S h l) {Q:Bool→Hp→Prop} (h0:¬(0≤n∧n<S.ls.length)→Q false h) (h1:∀ (i:Nat) (hi:i<S.ls.length),n=(i:Int)→Q S.ls[i].s.up h):ZA TP 26 [Value.pointer v.p,Value.int .i64 n] cB h Q:=by
 refine c26 ?_
 unfold F26
 refine ZMv a (ZH (fun hn=>?_) fun hn=>h0 hn)
 obtain ⟨m,rfl⟩:=Int.eq_ofNat_of_zero_le hn.1
 have hm:m<S.ls.length:=by omega
 obtain ⟨c,R,q,o1,_,w1,hld,cl⟩:=a.line hm
 dsimp only [ZR,VK.p]
 refine ZF (cd:=cSl) (x:=v.sl) a.ob (i:=1) rfl ?_
 refine hld ?_
 exact ZHK (o1.mem (by simp)) w1 (h1 m hm rfl)
theorem ZGe (a:ZBA v S h l) {Q:Option Addr→Hp→Prop} (hq:Q v.k.p h):ZA TP 27 [Value.pointer v.p] Go.Eng.cP h Q:=by
 refine c27 ?_
 unfold F27
 refine ZQ rfl ?_
 dsimp only [ZR,VK.p]
 exact ZF (cd:=Go.Eng.cP) (x:=v.k.p) a.ob (i:=0) rfl hq
theorem ZV6 {n:Nat} (a:ZBA v S h l) (hn:n<S.ls.length) (ho:S.ls[n].out.length≤1000) {Q:Sl→Hp→Prop} (hq:∀ sl ss r h',ZBA v {S with ls:=S.ls.set n {S.ls[n] with out:=[]}} h' (r::l)→Row cSl r sl ss→ZD0 r ss S.ls[n].out→Q sl h'):
 ZA TP 70 [Value.pointer v.p,Value.int .i64 (n:Int)] cSl h Q:=by
 refine c70 ?_
 unfold F70
 refine ZMv a ?_
 refine ZQ (by rw [decide_eq_true ⟨Int.natCast_nonneg n,by omega⟩]; rfl) ?_
 obtain ⟨c,R,q,o1,_,w1,hld,cl⟩:=a.line hn
 dsimp only [ZR,VK.p]
 refine ZF (cd:=cSl) (x:=v.sl) a.ob (i:=1) rfl ?_
 refine hld ?_
 refine ZTl o1 w1 ho fun sl ss c2 r2 h2 o2 w2 hr hr2=>?_
 exact hq sl ss r2 h2 (cl h2 c2 _ _ (o2.pick [0,2,1] 3 (by decide) (by decide)) w2) hr hr2
end
def ZDT (o:List (List Int)):Prop:=∃ fs:List ZP,(∀ f∈fs,wfF f)∧o=fs.map fun f=>ZAz (ZAQ f)
theorem ZDT.nil:ZDT []:=⟨[],by simp,rfl⟩
theorem ZDT.add {o:List (List Int)} (h:ZDT o) {f:ZP} (hf:wfF f):ZDT (o++[ZAz (ZAQ f)]):=by
 obtain ⟨fs,h1,rfl⟩:=h
 refine ⟨fs++[f],fun g hg=>?_,by simp⟩
 rcases List.mem_append.1 hg with hg|hg
 ·exact h1 g hg
 ·simp only [List.mem_singleton] at hg
  subst hg; exact hf
theorem ZFO:∀ (fs:List ZP) (st:SS×List (List Int)×Bool),(∀ f∈fs,wfF f)→ZDT st.2.1→ZDT (ZAp st fs).2.1
 | [],st,_,h=>h
 | f::fs,st,hf,h=>by
   refine ZFO fs (ZBb st f) (fun x hx=>hf x (by simp [hx])) ?_
   unfold ZBb
   split
   ·exact h.add (hf f (by simp))
   ·exact h
theorem ZTm {s:SS} {m:Msg} (hm:wfF (mkF (s.all.length+1:Nat) m)):(ZAi s m).2.2=true→wfF (ZAi s m).2.1:=by
 unfold ZAi
 split
 ·intro h; cases h
 ·intro _; exact hm
structure LOk (A B:Nat) (x:LS):Prop where
 held:Zv x.held
 hl:x.s.want+x.held.length+x.lost≤B+1
 wf:∀ f∈x.s.all,wfF f
 al:x.s.all.length≤A
 beat:1≤x.s.beat∧x.s.beat≤1000
 sent:x.s.sent≤B
 heard:x.s.heard≤B
 out:x.out.length≤256
 outs:ZDT x.out
theorem LOk.mono {A B A' B':Nat} {x:LS} (h:LOk A B x) (ha:A≤A') (hb:B≤B'):LOk A' B' x:=
 {h with hl:=by have:=h.hl; omega,al:=by have:=h.al; omega,sent:=by have:=h.sent; omega,heard:=by have:=h.heard; omega}
def ZJI (o:Out):Msg:=⟨o.Msg_Kind,o.Msg_F_0,o.Msg_F_1,o.Msg_F_2,o.Msg_F_3,o.Msg_F_4,o.Msg_F_5⟩
def ZBv (o:Out):Prop:=∀ n,I64 n→wfF (mkF n (ZJI o))
def lsV (x:LS) (m:Msg):LS:={x with s:=(ZFV x.s x.out m).1,out:=(ZFV x.s x.out m).2.1}
theorem ZLa (st:SS×List (List Int)×Bool) (f:ZP):(ZBb st f).1.beat=st.1.beat∧(ZBb st f).1.all=st.1.all∧(ZBb st f).1.want=st.1.want∧(ZBb st f).1.sent=st.1.sent∧(ZBb st f).1.heard=st.1.heard∧((ZBb st f).1.up=true→st.1.up=true)∧(st.2.1.length≤256→(ZBb st f).2.1.length≤256):=by
 unfold ZBb
 split
 ·exact ⟨rfl,rfl,rfl,rfl,rfl,fun h=>h,fun h=>by dsimp only; rw [List.length_append,List.length_singleton]; omega⟩
 ·exact ⟨rfl,rfl,rfl,rfl,rfl,fun h=>absurd h (by simp [ZLl]),fun h=>h⟩
theorem ZCh:∀ (fs:List ZP) (st:SS×List (List Int)×Bool),(ZAp st fs).1.beat=st.1.beat∧(ZAp st fs).1.all=st.1.all∧(ZAp st fs).1.want=st.1.want∧(ZAp st fs).1.sent=st.1.sent∧(ZAp st fs).1.heard=st.1.heard∧((ZAp st fs).1.up=true→st.1.up=true)∧(st.2.1.length≤256→(ZAp st fs).2.1.length≤256)
 | [],st=>⟨rfl,rfl,rfl,rfl,rfl,fun h=>h,fun h=>h⟩
 | f::fs,st=>by
   have h1:=ZLa st f
   have h2:=ZCh fs (ZBb st f)
   refine ⟨h2.1.trans h1.1,h2.2.1.trans h1.2.1,h2.2.2.1.trans h1.2.2.1,h2.2.2.2.1.trans h1.2.2.2.1,h2.2.2.2.2.1.trans h1.2.2.2.2.1,fun h=>h1.2.2.2.2.2.1 (h2.2.2.2.2.2.1 h),fun h=>h2.2.2.2.2.2.2 (h1.2.2.2.2.2.2 h)⟩
theorem ZLv (s:SS) (m:Msg) (hm:wfF (mkF (s.all.length+1:Nat) m)) (hw:∀ f∈s.all,wfF f):(ZAi s m).1.beat=s.beat∧(∀ f∈(ZAi s m).1.all,wfF f)∧(ZAi s m).1.all.length≤s.all.length+1∧(ZAi s m).1.want=s.want∧(ZAi s m).1.sent≤s.sent∧(ZAi s m).1.heard=s.heard∧((ZAi s m).1.up=true→s.up=true):=by
 unfold ZAi
 split
 ·exact ⟨rfl,hw,by dsimp only; omega,rfl,Nat.le_refl _,rfl,fun h=>h⟩
 ·refine ⟨rfl,fun f hf=>?_,by simp,rfl,by dsimp only; split<;>omega,rfl,fun h=>h⟩
  rcases List.mem_append.1 hf with hf|hf
  ·exact hw f hf
  ·simp only [List.mem_singleton] at hf
   subst hf
   exact hm
theorem ZZV {A B:Nat} {x:LS} {m:Msg} (h:LOk A B x) (hm:wfF (mkF (x.s.all.length+1:Nat) m)):LOk (A+1) B (lsV x m)∧((lsV x m).s.up=true→x.s.up=true):=by
 have hs:=ZLv x.s m hm h.wf
 have e:(lsV x m).held=x.held∧(lsV x m).lost=x.lost:=⟨rfl,rfl⟩
 have key:(lsV x m).s.beat=x.s.beat∧(∀ f∈(lsV x m).s.all,wfF f)∧(lsV x m).s.all.length≤x.s.all.length+1∧(lsV x m).s.want=x.s.want∧(lsV x m).s.sent≤x.s.sent∧(lsV x m).s.heard=x.s.heard∧((lsV x m).s.up=true→x.s.up=true)∧(lsV x m).out.length≤256∧ZDT (lsV x m).out:=by
  have hfr:=ZTm (s:=x.s) hm
  unfold lsV ZFV
  dsimp only
  split
  ·rename_i hup
   have hg:=ZCh [(ZAi x.s m).2.1] ((ZAi x.s m).1,x.out,false)
   dsimp only at hg
   exact ⟨hg.1.trans hs.1,by rw [hg.2.1]; exact hs.2.1,by rw [hg.2.1]; exact hs.2.2.1,hg.2.2.1.trans hs.2.2.2.1,by rw [hg.2.2.2.1]; exact hs.2.2.2.2.1,hg.2.2.2.2.1.trans hs.2.2.2.2.2.1,fun h=>hs.2.2.2.2.2.2 (hg.2.2.2.2.2.1 h),hg.2.2.2.2.2.2 h.out,ZFO _ _ (fun f hf=>by rw [List.mem_singleton] at hf; subst hf; exact hfr hup) h.outs⟩
  ·exact ⟨hs.1,hs.2.1,hs.2.2.1,hs.2.2.2.1,hs.2.2.2.2.1,hs.2.2.2.2.2.1,hs.2.2.2.2.2.2,h.out,h.outs⟩
 obtain ⟨k1,k2,k3,k4,k5,k6,k7,k8,k9⟩:=key
 have a1:=h.al
 have a2:=h.sent
 exact ⟨⟨by rw [e.1]; exact h.held,by rw [e.1,e.2,k4]; exact h.hl,k2,by omega,by rw [k1]; exact h.beat,by omega,by rw [k6]; exact h.heard,k8,k9⟩,k7⟩
def ZA1 (st:List LS×List Bool) (o:Out):List LS×List Bool:=
 if 0≤o.To∧o.To<st.1.length then match st.1[o.To.toNat]? with
  | none=>st
  | some x=>(st.1.set o.To.toNat (lsV x (ZJI o)),st.2.set o.To.toNat ((st.2[o.To.toNat]?).getD false||(x.s.up&&!(lsV x (ZJI o)).s.up)))
 else st
def ZAy (ls:List LS) (os:List Out):List LS×List Bool:=os.foldl ZA1 (ls,List.replicate ls.length false)
def ups (ls:List LS):Nat:=(ls.filter fun x=>x.s.up).length
def ZC4 (bs:List Bool):Nat:=(bs.filter id).length
theorem ZHe {α:Type} (φ:α→Bool):∀ (l:List α) (i:Nat) (x y:α),l[i]?=some x→((l.set i y).filter φ).length+(if φ x then 1 else 0)=(l.filter φ).length+(if φ y then 1 else 0)
 | [],i,x,y,h=>by simp at h
 | a::l,0,x,y,h=>by
   simp only [List.getElem?_cons_zero,Option.some.injEq] at h
   subst h
   simp only [List.set_cons_zero,List.filter_cons]
   split<;>split<;>simp_all<;>omega
 | a::l,i+1,x,y,h=>by
   simp only [List.getElem?_cons_succ] at h
   have:=ZHe φ l i x y h
   simp only [List.set_cons_succ,List.filter_cons]
   split<;>(try simp only [List.length_cons])<;>omega
theorem ZUB {A B:Nat} {st:List LS×List Bool} {o:Out} (h:∀ x∈st.1,LOk A B x) (ho:ZBv o) (hA:A≤1000000000) (hl:st.2.length=st.1.length):
 (∀ x∈(ZA1 st o).1,LOk (A+1) B x)∧(ZA1 st o).1.length=st.1.length∧(ZA1 st o).2.length=st.1.length∧ups (ZA1 st o).1+ZC4 (ZA1 st o).2≤ups st.1+ZC4 st.2∧∀ (i:Nat) (x:LS),(ZA1 st o).1[i]?=some x→x.s.up=true→∃ y:LS,st.1[i]?=some y∧y.s.up=true:=by
 have h0:∀ x∈st.1,LOk (A+1) B x:=fun x hx=>(h x hx).mono (by omega) (Nat.le_refl _)
 unfold ZA1
 split
 ·rename_i hn
  have hlt:o.To.toNat<st.1.length:=by omega
  rw [List.getElem?_eq_getElem hlt]
  dsimp only
  have hx:=h _ (List.getElem_mem hlt)
  have hk:=ZZV (m:=ZJI o) hx (ho _ (by have:=hx.al; unfold I64; omega))
  have hg:st.1[o.To.toNat]?=some st.1[o.To.toNat]:=List.getElem?_eq_getElem hlt
  generalize st.1[o.To.toNat]=x at*
  refine ⟨fun y hy=>?_,by rw [List.length_set],by rw [List.length_set]; exact hl,?_,fun i y hy hu=>?_⟩
  ·rcases List.mem_or_eq_of_mem_set hy with hy|hy
   ·exact h0 y hy
   ·subst hy; exact hk.1
  ·have hlt2:o.To.toNat<st.2.length:=by omega
   have c1:=ZHe (fun x=>x.s.up) st.1 o.To.toNat x (lsV x (ZJI o)) hg
   have c2:=ZHe id st.2 o.To.toNat st.2[o.To.toNat] (st.2[o.To.toNat]||(x.s.up&&!(lsV x (ZJI o)).s.up)) (List.getElem?_eq_getElem hlt2)
   rw [List.getElem?_eq_getElem hlt2]
   unfold ups ZC4
   show _+(List.filter id (st.2.set o.To.toNat (st.2[o.To.toNat]||(x.s.up&&!(lsV x (ZJI o)).s.up)))).length≤_
   have hup:=hk.2
   generalize (lsV x (ZJI o)).s.up=u at*
   generalize x.s.up=w at*
   generalize st.2[o.To.toNat]=t at*
   cases u<;>cases w<;>cases t<;>simp at c1 c2 hup ⊢<;>omega
  ·by_cases hi:o.To.toNat=i
   ·subst hi
    rw [List.getElem?_set_self hlt] at hy
    cases hy
    exact ⟨x,hg,hk.2 hu⟩
   ·rw [List.getElem?_set_ne hi] at hy
    exact ⟨y,hy,hu⟩
 ·exact ⟨h0,rfl,hl,Nat.le_refl _,fun i x hx hu=>⟨x,hx,hu⟩⟩
theorem ZG9 {B:Nat}:∀ (os:List Out) {A:Nat} {st:List LS×List Bool},(∀ x∈st.1,LOk A B x)→(∀ o∈os,ZBv o)→A+os.length≤1000000000→st.2.length=st.1.length→
 (∀ x∈(os.foldl ZA1 st).1,LOk (A+os.length) B x)∧(os.foldl ZA1 st).1.length=st.1.length∧(os.foldl ZA1 st).2.length=st.1.length∧ups (os.foldl ZA1 st).1+ZC4 (os.foldl ZA1 st).2≤ups st.1+ZC4 st.2∧∀ (i:Nat) (x:LS),(os.foldl ZA1 st).1[i]?=some x→x.s.up=true→∃ y:LS,st.1[i]?=some y∧y.s.up=true
 | [],A,st,h,ho,hA,hl=>⟨h,rfl,hl,Nat.le_refl _,fun i x hx hu=>⟨x,hx,hu⟩⟩
 | o::os,A,st,h,ho,hA,hl=>by
   rw [List.length_cons] at hA
   have h1:=ZUB (A:=A) (B:=B) (st:=st) (o:=o) h (ho o (by simp)) (by omega) hl
   have h2:=ZG9 os (A:=A+1) (st:=ZA1 st o) h1.1 (fun x hx=>ho x (by simp [hx])) (by omega) (by rw [h1.2.2.1,h1.2.1])
   rw [List.foldl_cons,List.length_cons]
   refine ⟨fun x hx=>(h2.1 x hx).mono (by omega) (Nat.le_refl _),by rw [h2.2.1,h1.2.1],by rw [h2.2.2.1,h1.2.1],by have:=h1.2.2.2.1; have:=h2.2.2.2.1; omega,fun i x hx hu=>?_⟩
   obtain ⟨y,hy,hyu⟩:=h2.2.2.2.2 i x hx hu
   exact h1.2.2.2.2 i y hy hyu
theorem ZRD:∀ n:Nat,Z1 n [Value.bool false]=ZG cB (List.replicate n false)
 | 0=>rfl
 | n+1=>by
   show Value.bool false::Z1 n [Value.bool false]=Value.bool false::ZG cB (List.replicate n false)
   rw [ZRD n]
theorem ZU6 {k n:Nat} {e:TypeId}:Own cB (ob k (Z1 n [Value.bool false]) e) ⟨some ⟨k,0,none⟩,n,n⟩ (List.replicate n false):=
 ZBG (rest:=[]) (by rw [ZRD,List.append_nil]) (by simp) (by simp)
section
variable {v:VK} {S:VS} {h:Hp} {l:List Hp} {A B:Nat}
theorem ZRe {d:Hp} {sl:Sl} {bs:List Bool} {i:Nat} {x:Bool} (a:ZBA v S h (d::l)) (w:Own cB d sl bs) (hi:i<bs.length) {K:Hp→Prop} (hK:∀ d' h',ZBA v S h' (d'::l)→Own cB d' sl (bs.set i x)→K h'):
 Zi sl.a sl.len (i:Int) fun p=>ZU cB (p.add ((i:Int).toNat*1)) x h K:=by
 have:=w.1
 refine ZM w.row (Int.natCast_nonneg i) (by omega) fun p hp=>?_
 obtain ⟨dL,D,ps,cs,o,w1⟩:=a
 have e1:∀ z:Hp,ob v.b (ZBe v) 152::dL::D::(cs++z::l)=(ob v.b (ZBe v) 152::dL::D::cs)++z::l:=fun _=>rfl
 have o1:On h (d::((ob v.b (ZBe v) 152::dL::D::cs)++l)):=o.perm (by rw [e1]; exact List.perm_middle)
 refine ZB4 o1 rfl w hp (i:=i) hi rfl fun d2 h2 o2 w2=>?_
 refine hK d2 h2 ⟨dL,D,ps,cs,o2.perm ?_,w1⟩ w2
 rw [e1]
 exact List.perm_middle.symm
theorem ZNB {p:Sl} {g:Hp} {os:List Out} (a:ZBA v S h l) (hg:g∈l) (r:Row ZCL g p os) (hx:∀ x∈S.ls,LOk A B x) (ho:∀ o∈os,ZBv o) (hA:A+os.length≤1000000000) (hn:S.ls.length≤1000)
 {Q:Sl→Hp→Prop} (hq:∀ sl d h',ZBA v {S with ls:=(ZAy S.ls os).1} h' (d::l)→Own cB d sl (ZAy S.ls os).2→Q sl h'):ZA TP 110 [Value.pointer v.p,Value.slice p.a p.len p.cap] cSl h Q:=by
 refine c110 ?_
 unfold F110
 have hlen:=r.1
 have hvl:=a.len
 dsimp only [ZR,VK.p]
 refine ZF (cd:=cSl) (x:=v.sl) a.ob (i:=1) rfl ?_
 refine ⟨by omega,by omega,by omega,by omega,?_⟩
 refine a.new fun k1 h1 a1=>?_
 have en:((v.sl.len:Int)).toNat=S.ls.length:=by omega
 rw [en] at a1 ⊢
 unfold ZAy at hq
 refine Zb (fun z h'=>∃ (j:Nat) (d:Hp),z=(j:Int)∧j≤os.length∧ZBA v {S with ls:=((os.take j).foldl ZA1 (S.ls,List.replicate S.ls.length false)).1} h' (d::l)∧Own cB d ⟨some ⟨k1,0,none⟩,S.ls.length,S.ls.length⟩ ((os.take j).foldl ZA1 (S.ls,List.replicate S.ls.length false)).2) (fun z=>os.length-z.toNat)
  ⟨0,_,rfl,Nat.zero_le _,a1,ZU6⟩ ?_
 rintro J z h2 again ⟨j,d,rfl,hj,a2,w2⟩
 have hst:=ZG9 (B:=B) (os.take j) (A:=A) (st:=(S.ls,List.replicate S.ls.length false)) hx (fun o ho'=>ho o (List.mem_of_mem_take ho')) (by rw [List.length_take]; omega) (by simp)
 refine ZH (fun hlt=>?_) fun hge=>?_
 ·have hj':j<os.length:=by omega
  have a0:os[j]?=some os[j]:=List.getElem?_eq_getElem hj'
  have est:=Z5 ZA1 (S.ls,List.replicate S.ls.length false) os a0
  have hoj:=ho _ (List.getElem_mem hj')
  rw [List.length_take] at hst
  generalize os[j]=o at a0 est hoj
  generalize (os.take j).foldl ZA1 (S.ls,List.replicate S.ls.length false)=st at*
  obtain ⟨ls,dn⟩:=st
  dsimp only at a2 w2 hst est
  obtain ⟨s1,s2,s3,_⟩:=hst
  rw [ZAH (by omega)]
  refine ZN (fun _ h'=>∃ d,ZBA v {S with ls:=(ZA1 (ls,dn) o).1} h' (d::l)∧Own cB d ⟨some ⟨k1,0,none⟩,S.ls.length,S.ls.length⟩ (ZA1 (ls,dn) o).2) ?_ fun J2 hJ2=>?_
  ·rintro _ h' ⟨d',a',w'⟩
   exact again _ _ ⟨j+1,d',rfl,by omega,by rw [est]; exact a',by rw [est]; exact w'⟩ (by omega)
  ·refine ZM r (Int.natCast_nonneg j) (by omega) fun p hp=>ZO r (a2.sub (by simp [hg])) rfl hp (i:=j) a0 (by rfl) ?_
   refine ZMv a2 ?_
   dsimp only
   unfold ZA1 at hJ2
   dsimp only at hJ2
   refine ZD (fun e=>?_) fun e=>?_
   ·have e:¬(0≤o.To∧o.To<(ls.length:Int)):=by simpa only [Bool.not_eq_true',decide_eq_false_iff_not] using e
    rw [if_neg e] at hJ2
    exact hJ2 _ _ ⟨d,a2,w2⟩
   ·have e:0≤o.To∧o.To<ls.length:=by simpa using e
    rw [if_pos e] at hJ2
    generalize o.To=n at*
    obtain ⟨m,rfl⟩:=Int.eq_ofNat_of_zero_le e.1
    have hm:m<ls.length:=by omega
    have hmd:m<dn.length:=by omega
    simp only [Int.toNat_natCast] at hJ2
    rw [List.getElem?_eq_getElem hm,List.getElem?_eq_getElem hmd] at hJ2
    dsimp only [Option.getD_some] at hJ2
    have hxm:=s1 _ (List.getElem_mem hm)
    refine ZF (cd:=cSl) (x:=v.sl) a2.ob (i:=1) rfl ?_
    obtain ⟨c3,R,q,o3,_,w3,hld,cl⟩:=a2.line (i:=m) hm
    refine hld ?_
    refine ZHK (o3.mem (by simp)) w3 ?_
    have hal:=hxm.al
    refine ZQo (m:=ZJI o) o3 w3 (by show ls[m].s.all.length≤_; omega) (hoj _ (by show I64 ((ls[m].s.all.length+1:Nat):Int); unfold I64; omega)) fun c4 h4 o4 w4=>?_
    have a4:ZBA v {S with ls:=ls.set m (lsV ls[m] (ZJI o))} h4 (d::l):=cl h4 c4 _ (lsV ls[m] (ZJI o)) o4 w4
    have hdl:=w2.1
    dsimp only at hdl
    have hwr:∀ {K:Bool→Prop},K dn[m]→Zi (some ⟨k1,0,none⟩) S.ls.length (m:Int) fun p=>ZC cB (p.add ((m:Int).toNat*1)) h4 K:=fun {K} hK=>by
         refine ZM w2.row (Int.natCast_nonneg m) (by omega) fun p hp=>?_
         exact ZO w2.row (a4.sub (by simp)) rfl hp (i:=m) (List.getElem?_eq_getElem hmd) (by rfl) hK
    refine hwr ?_
    have hput:∀ {x:Bool},x=(dn[m]||(ls[m].s.up&&!(lsV ls[m] (ZJI o)).s.up))→Zi (some ⟨k1,0,none⟩) S.ls.length (m:Int) fun p=>ZU cB (p.add ((m:Int).toNat*1)) x h4 fun h'=>J2 PUnit.unit h':=fun {x} hx=>by
         refine ZRe (sl:=⟨some ⟨k1,0,none⟩,S.ls.length,S.ls.length⟩) (x:=x) a4 w2 hmd fun d5 h5 a5 w5=>?_
         rw [hx] at w5
         exact hJ2 _ _ ⟨d5,a5,w5⟩
    refine ZD (fun e1=>hput ?_) fun e1=>ZD (fun e2=>?_) fun e2=>hput ?_
    ·rw [e1]; rfl
    ·refine ZHK (o4.mem (by simp)) w4 (hput ?_)
     have e2:ls[m].s.up=true:=e2
     rw [e1,e2]; rfl
    ·rw [e1]
     have e2:ls[m].s.up=false:=e2
     rw [e2]; rfl
 ·have:j=os.length:=by omega
  subst this
  rw [List.take_length] at a2 w2
  exact hq _ d h2 a2 w2
end
structure FOk (S:DS):Prop where
 bo:∀ b∈S.books,∀ x∈b,I64 x.ID
 qo:∀ q∈S.quotes,I64 q.ID∧I64 q.Expires
 ao:∀ a∈S.asks,I64 a.Side∧I64 a.Ends∧I64 a.Hit
theorem ZRl {n:Int} (h1:-9223372036854775808≤n) (h2:n≤9223372036854775807):I64 n:=⟨h1,h2⟩
theorem ZD6 {to kind:Int} {ns:List Int} (hk:I64 kind) (hn:∀ n∈ns,I64 n):ZBv (ZGh to kind ns):=by
 have hg:∀ i,I64 (ns.getD i 0):=fun i=>ZSI hn i
 intro n hn'
 unfold wfF mkF ZJI ZGh
 intro x hx
 simp only [ZDH,fs,List.mem_cons,List.not_mem_nil,or_false] at hx
 rcases hx with rfl|rfl|rfl|rfl|rfl|rfl|rfl|rfl
 ·exact hn'
 ·exact hk
 all_goals exact hg _
theorem ZN5 {t:ZAq} (h:ZCc t):∀ o∈ZH5 t,ZBv o:=by
 obtain ⟨h1,h2,h3,h4,h5,h6,h7,h8⟩:=h
 intro o ho n hn
 unfold ZH5 ZZZ at ho
 simp only [List.mem_cons,List.not_mem_nil,or_false] at ho
 unfold wfF mkF ZJI
 intro x hx
 rcases ho with rfl|rfl<;>simp only [ZDH,fs,List.mem_cons,List.not_mem_nil,or_false] at hx<;>rcases hx with rfl|rfl|rfl|rfl|rfl|rfl|rfl|rfl<;>first|assumption|(exact ZRl (by omega) (by omega))
theorem ZJh {who:Int} {P:ZE→Prop}:∀ (os:List ZE) (st:List ZE×List Out),(∀ o∈os,P o)→(∀ o,P o→o.Owner=who→ZBv (ZGh who 21 [o.ID,o.Left]))→(∀ o∈st.2,ZBv o)→∀ o∈(os.foldl (ZDY who) st).2,ZBv o
 | [],st,_,_,h=>h
 | x::os,st,hP,hO,h=>by
   rw [List.foldl_cons]
   refine ZJh os (ZDY who st x) (fun o ho=>hP o (by simp [ho])) hO ?_
   unfold ZDY
   split
   ·rename_i e
    intro o ho
    rcases List.mem_append.1 ho with ho|ho
    ·exact h o ho
    ·simp only [List.mem_singleton] at ho
     subst ho
     exact hO x (hP x (by simp)) e
   ·exact h
theorem ZJz {who:Int} {o:ZE} (h1:I64 o.ID) (h2:1≤o.Left∧o.Left≤1000000):ZBv (ZGh who 21 [o.ID,o.Left]):=ZD6 (ZRl (by omega) (by omega)) fun n hn=>by
 simp only [List.mem_cons,List.not_mem_nil,or_false] at hn
 rcases hn with rfl|rfl
 ·exact h1
 ·exact ZRl (by omega) (by omega)
theorem ZLr {who m:Int} {b:List ZE} {os:List Out} (hb:ZAd m b) (hi:∀ x∈b,I64 x.ID) (ho:∀ o∈os,ZBv o):∀ o∈(ZAA who (b,os)).2,ZBv o:=by
 unfold ZAA
 have h1:∀ o∈(ZAK who 1 (b,os)).2,ZBv o:=by
  unfold ZAK
  exact ZJh (P:=fun o=>o∈b) _ _ (fun o ho=>(Z7.1 ho).1) (fun o hm _=>ZJz (hi o hm) ⟨(hb.2.1 o hm).1,(hb.2.1 o hm).2.1⟩) ho
 have hs:=(ZBa who 1 (b,os)).1
 generalize ZAK who 1 (b,os)=st at*
 unfold ZAK
 exact ZJh (P:=fun o=>o∈b) _ _ (fun o ho=>hs.subset (Z7.1 ho).1) (fun o hm _=>ZJz (hi o hm) ⟨(hb.2.1 o hm).1,(hb.2.1 o hm).2.1⟩) h1
theorem ZIJ {who m:Int}:∀ (bs:List (List ZE)) (acc:List (List ZE)×List Out),(∀ b∈bs,ZAd m b∧∀ x∈b,I64 x.ID)→(∀ b∈acc.1,∀ x∈b,I64 x.ID)→(∀ o∈acc.2,ZBv o)→
 (∀ b∈(bs.foldl (ZAh who) acc).1,∀ x∈b,I64 x.ID)∧∀ o∈(bs.foldl (ZAh who) acc).2,ZBv o
 | [],acc,_,h1,h2=>⟨h1,h2⟩
 | b::bs,acc,hb,h1,h2=>by
   rw [List.foldl_cons]
   have hbb:=hb b (by simp)
   refine ZIJ bs (ZAh who acc b) (fun x hx=>hb x (by simp [hx])) (fun y hy=>?_) (ZLr hbb.1 hbb.2 h2)
   rcases List.mem_append.1 hy with hy|hy
   ·exact h1 y hy
   ·simp only [List.mem_singleton] at hy
    subst hy
    exact fun x hx=>hbb.2 x ((ZBW who (b,acc.2)).1.subset hx)
theorem ZLX (S:DS) (q:Za):(goneQ S q).books=S.books∧(goneQ S q).asks=S.asks∧(goneQ S q).trades=S.trades:=by
 unfold goneQ
 split<;>exact ⟨rfl,rfl,rfl⟩
theorem ZGL:∀ (qs:List Za) (S:DS),(qs.foldl goneQ S).books=S.books∧(qs.foldl goneQ S).asks=S.asks∧(qs.foldl goneQ S).trades=S.trades
 | [],S=>⟨rfl,rfl,rfl⟩
 | q::qs,S=>by
   have h1:=ZLX S q
   have h2:=ZGL qs (goneQ S q)
   rw [List.foldl_cons]
   exact ⟨h2.1.trans h1.1,h2.2.1.trans h1.2.1,h2.2.2.trans h1.2.2⟩
theorem ZJJ {xs:List Za} {id:Int} (h:∀ q∈xs,I64 q.ID∧I64 q.Expires):∀ q∈killQ xs id,I64 q.ID∧I64 q.Expires:=fun q hq=>by
 obtain ⟨x,hx,rfl|⟨_,rfl⟩⟩:=ZHd hq
 ·exact h q hx
 ·exact h x hx
theorem ZNl:∀ (qs:List Za) (S:DS),FOk S→FOk (qs.foldl goneQ S)
 | [],S,h=>h
 | q::qs,S,h=>by
   rw [List.foldl_cons]
   refine ZNl qs (goneQ S q) ?_
   unfold goneQ
   split
   ·exact h
   ·exact {h with qo:=ZJJ h.qo}
theorem ZIV {N:Nat} {S:DS} {who:Int} (i:WOk N S) (f:FOk S):FOk (ZAU S who).1∧∀ o∈(ZAU S who).2,ZBv o:=by
 have h:=ZIJ (who:=who) (m:=S.seq) S.books ([],[]) (fun b hb=>⟨i.books b hb,f.bo b hb⟩) (by simp) (by simp)
 exact ⟨ZNl _ _ {f with bo:=h.1},h.2⟩
theorem ZHs (S:DS) (who:Int):(ZAU S who).1.books=(ZCB who S.books).1∧(ZAU S who).1.asks=S.asks∧(ZAU S who).1.trades=S.trades:=ZGL _ _
def ZCw (a b:List Bool):List Bool:=List.zipWith (fun x y=>x||y) a b
def ZAP (acc:VS×List Bool) (p:Bool×Nat):VS×List Bool:=
 if p.1=true then (⟨(ZAU acc.1.d p.2).1,(ZAy acc.1.ls (ZAU acc.1.d p.2).2).1⟩,ZCw acc.2 (ZAy acc.1.ls (ZAU acc.1.d p.2).2).2) else acc
def ZDu (S:VS) (dn:List Bool):VS×List Bool:=dn.zipIdx.foldl ZAP (S,List.replicate S.ls.length false)
inductive ZEf:VS→List Bool→VS→Prop
 | done {S:VS} {dn:List Bool}:dn.any id=false→ZEf S dn S
 | step {S S':VS} {dn:List Bool}:dn.any id=true→ZEf (ZDu S dn).1 (ZDu S dn).2 S'→ZEf S dn S'
def ZMm (S:VS) (os:List Out) (S':VS):Prop:=ZEf ⟨S.d,(ZAy S.ls os).1⟩ (ZAy S.ls os).2 S'
structure VOk (N A B:Nat) (S:VS):Prop where
 w:WOk N S.d
 f:FOk S.d
 l:∀ x∈S.ls,LOk A B x
 n:S.ls.length≤8
theorem VOk.mono {N A B N' A' B':Nat} {S:VS} (h:VOk N A B S) (h1:N≤N') (h2:A≤A') (h3:B≤B'):VOk N' A' B' S:=⟨h.w.mono h1,h.f,fun x hx=>(h.l x hx).mono h2 h3,h.n⟩
theorem ZHi:∀ (a b:List Bool),ZC4 (ZCw a b)≤ZC4 a+ZC4 b
 | [],_=>by simp [ZCw,ZC4]
 | _::_,[]=>by simp [ZCw,ZC4]
 | x::a,y::b=>by
   have:=ZHi a b
   unfold ZCw ZC4 at*
   simp only [List.zipWith_cons_cons,List.filter_cons]
   cases x<;>cases y<;>simp<;>omega
theorem ZKp (n:Nat):ZC4 (List.replicate n false)=0:=by
 unfold ZC4
 rw [List.filter_eq_nil_iff.2 (fun x hx=>by rw [List.eq_of_mem_replicate hx]; simp)]
 rfl
theorem ZSq {dn:List Bool} (h:dn.any id=true):1≤ZC4 dn:=by
 obtain ⟨x,hx,hx2⟩:=List.any_eq_true.1 h
 unfold ZC4
 exact List.length_pos_of_mem (List.mem_filter.2 ⟨hx,hx2⟩)
theorem ZEu {A B:Nat} {ls:List LS} {os:List Out} (hx:∀ x∈ls,LOk A B x) (ho:∀ o∈os,ZBv o) (hA:A+os.length≤1000000000):
 (∀ x∈(ZAy ls os).1,LOk (A+os.length) B x)∧(ZAy ls os).1.length=ls.length∧(ZAy ls os).2.length=ls.length∧ups (ZAy ls os).1+ZC4 (ZAy ls os).2≤ups ls∧∀ (i:Nat) (x:LS),(ZAy ls os).1[i]?=some x→x.s.up=true→∃ y:LS,ls[i]?=some y∧y.s.up=true:=by
 have:=ZG9 (B:=B) os (A:=A) (st:=(ls,List.replicate ls.length false)) hx ho hA (by simp)
 dsimp only at this
 rw [ZKp] at this
 exact this
theorem ZG8 {who:Int}:∀ (bs:List (List ZE)) (acc:List (List ZE)×List Out),(∀ b∈bs,b.length≤64)→(bs.foldl (ZAh who) acc).2.length≤acc.2.length+128*bs.length
 | [],acc,_=>Nat.le_refl _
 | b::bs,acc,h=>by
   rw [List.foldl_cons]
   have h1:=ZG8 (who:=who) bs (ZAh who acc b) fun x hx=>h x (by simp [hx])
   have h2:=(ZBW who (b,acc.2)).2
   have h3:=h b (by simp)
   dsimp only at h2
   have h4:(ZAh who acc b).2=(ZAA who (b,acc.2)).2:=rfl
   rw [h4] at h1
   rw [List.length_cons]
   omega
theorem ZNf {N:Nat}:∀ (qs:List Za) (S:DS),WOk N S→WOk N (qs.foldl goneQ S)
 | [],S,h=>h
 | q::qs,S,h=>ZNf qs (goneQ S q) h.goneQ
theorem ZSL {N:Nat} {who:Int} {S:DS} (i:WOk N S):WOk N {S with books:=(ZCB who S.books).1}:=by
 have key:∀ (bs pre:List (List ZE)) (os:List Out),(∀ b∈bs,ZAd S.seq b)→(∀ b∈pre,ZAd S.seq b)→∀ b∈(bs.foldl (ZAh who) (pre,os)).1,ZAd S.seq b:=by
  intro bs
  induction bs with
  | nil=>intro pre os _ hp; exact hp
  | cons b bs ih=>
    intro pre os hb hp
    rw [List.foldl_cons]
    refine ih (pre++[(ZAA who (b,os)).1]) (ZAA who (b,os)).2 (fun x hx=>hb x (by simp [hx])) fun x hx=>?_
    rcases List.mem_append.1 hx with hx|hx
    ·exact hp x hx
    ·simp only [List.mem_singleton] at hx
     subst hx
     exact (hb b (by simp)).sub (ZBW who (b,os)).1
 have hl:(ZCB who S.books).1.length=S.books.length:=by
  have:=ZEo who S.books ([],[])
  unfold ZCB
  simpa using this
 exact {i with
  bl:=by dsimp only; rw [hl]; exact i.bl
  bl4:=by dsimp only; rw [hl]; exact i.bl4
  books:=key S.books [] [] i.books (by simp)
  ai:=fun a ha=>by dsimp only; rw [hl]; exact i.ai a ha}
theorem ZLC {N:Nat} {S:DS} {who:Int} (i:WOk N S):WOk N (ZAU S who).1∧(ZAU S who).2.length≤512:=by
 refine ⟨ZNf _ _ (ZSL i),?_⟩
 have:=ZG8 (who:=who) S.books ([],[]) fun b hb=>(i.books b hb).2.2.1
 have h4:=i.bl4
 show (ZCB who S.books).2.length≤512
 unfold ZCB
 simp only [List.length_nil] at this
 omega
theorem ZQG {N A B:Nat} {acc:VS×List Bool} {p:Bool×Nat} (h:VOk N A B acc.1) (hl:acc.2.length=acc.1.ls.length) (hA:A+512≤1000000000):
 VOk N (A+512) B (ZAP acc p).1∧(ZAP acc p).2.length=(ZAP acc p).1.ls.length∧(ZAP acc p).1.ls.length=acc.1.ls.length∧ups (ZAP acc p).1.ls+ZC4 (ZAP acc p).2≤ups acc.1.ls+ZC4 acc.2∧
  ∀ (i:Nat) (x:LS),(ZAP acc p).1.ls[i]?=some x→x.s.up=true→∃ y:LS,acc.1.ls[i]?=some y∧y.s.up=true:=by
 unfold ZAP
 split
 ·have hw:=ZLC (who:=(p.2:Int)) h.w
  have hf:=ZIV (who:=(p.2:Int)) h.w h.f
  have hs:=ZEu (os:=(ZAU acc.1.d (p.2:Int)).2) h.l hf.2 (by omega)
  have ht:=ZHi acc.2 (ZAy acc.1.ls (ZAU acc.1.d (p.2:Int)).2).2
  refine ⟨⟨hw.1,hf.1,fun x hx=>(hs.1 x hx).mono (by omega) (Nat.le_refl _),by dsimp only; rw [hs.2.1]; exact h.n⟩,?_,hs.2.1,?_,hs.2.2.2.2⟩
  ·dsimp only
   unfold ZCw
   rw [List.length_zipWith,hs.2.1,hs.2.2.1,hl,Nat.min_self]
  ·have:=hs.2.2.2.1
   dsimp only
   omega
 ·exact ⟨h.mono (Nat.le_refl _) (by omega) (Nat.le_refl _),hl,rfl,Nat.le_refl _,fun i x hx hu=>⟨x,hx,hu⟩⟩
theorem ZJ5 {N B:Nat}:∀ (ps:List (Bool×Nat)) {A:Nat} {acc:VS×List Bool},VOk N A B acc.1→acc.2.length=acc.1.ls.length→A+512*ps.length≤1000000000→
 VOk N (A+512*ps.length) B (ps.foldl ZAP acc).1∧(ps.foldl ZAP acc).2.length=(ps.foldl ZAP acc).1.ls.length∧(ps.foldl ZAP acc).1.ls.length=acc.1.ls.length∧ups (ps.foldl ZAP acc).1.ls+ZC4 (ps.foldl ZAP acc).2≤ups acc.1.ls+ZC4 acc.2∧
  ∀ (i:Nat) (x:LS),(ps.foldl ZAP acc).1.ls[i]?=some x→x.s.up=true→∃ y:LS,acc.1.ls[i]?=some y∧y.s.up=true
 | [],A,acc,h,hl,hA=>⟨h.mono (Nat.le_refl _) (Nat.le_add_right _ _) (Nat.le_refl _),hl,rfl,Nat.le_refl _,fun i x hx hu=>⟨x,hx,hu⟩⟩
 | p::ps,A,acc,h,hl,hA=>by
   rw [List.length_cons] at hA
   have hA1:A+512≤1000000000:=Nat.le_trans (by rw [Nat.mul_add]; exact Nat.add_le_add_left (Nat.le_add_left _ _) _) hA
   have hA2:A+512+512*ps.length≤1000000000:=Nat.le_trans (by rw [Nat.mul_add,Nat.mul_one]; exact Nat.le_of_eq (by rw [Nat.add_assoc,Nat.add_comm 512])) hA
   have h1:=ZQG (p:=p) h hl hA1
   have h2:=ZJ5 ps (A:=A+512) (acc:=ZAP acc p) h1.1 h1.2.1 hA2
   rw [List.foldl_cons,List.length_cons]
   refine ⟨h2.1.mono (Nat.le_refl _) (Nat.le_of_eq (by rw [Nat.mul_add,Nat.mul_one,Nat.add_assoc,Nat.add_comm 512])) (Nat.le_refl _),h2.2.1,h2.2.2.1.trans h1.2.2.1,Nat.le_trans h2.2.2.2.1 h1.2.2.2.1,fun i x hx hu=>?_⟩
   obtain ⟨y,hy,hyu⟩:=h2.2.2.2.2 i x hx hu
   exact h1.2.2.2.2 i y hy hyu
theorem ZUY (a b:List Bool) (t:Nat) (ht:t<a.length) (hb:a.length=b.length):(ZCw (a.take t) (b.take t)++a.drop t).set t (a[t]||b[t]'(by omega))=ZCw (a.take (t+1)) (b.take (t+1))++a.drop (t+1):=by
 have hl:(ZCw (a.take t) (b.take t)).length=t:=by unfold ZCw; rw [List.length_zipWith,List.length_take,List.length_take]; omega
 rw [List.set_append_right _ _ (by omega),hl,Nat.sub_self,List.drop_eq_getElem_cons ht]
 have e:ZCw (a.take (t+1)) (b.take (t+1))=ZCw (a.take t) (b.take t)++[a[t]||b[t]'(by omega)]:=by
  unfold ZCw
  rw [List.take_add_one,List.take_add_one,List.getElem?_eq_getElem ht,List.getElem?_eq_getElem (by omega),List.zipWith_append (by rw [List.length_take,List.length_take]; omega)]
  rfl
 rw [e,List.append_assoc]
 rfl
section
variable {v:VK} {S:VS} {h:Hp} {l:List Hp} {N A B:Nat}
theorem ZS0 {dk dm:Hp} {k1 n:Nat} {s4:Sl} {xs ys:List Bool} (a:ZBA v S h (dm::dk::l)) (wk:Own cB dk ⟨some ⟨k1,0,none⟩,n,n⟩ xs) (wm:Own cB dm s4 ys) (hab:xs.length=ys.length) (hl:xs.length≤1000) {K:Hp→Prop}
 (hK:∀ d' h',ZBA v S h' (d'::l)→Own cB d' ⟨some ⟨k1,0,none⟩,n,n⟩ (ZCw xs ys)→K h'):
 Zg (0:Int) h fun (J4:Int→Hp→Prop) n1 h8=>ZB (decide (n1<(s4.len:Int)))
   (ZX (fun (u1:PUnit) h9=>J4 (IntKind.i64.wrap (n1+1)) h9) fun J5=>Zi s4.a s4.len n1 fun a4=>ZC cB (a4.add (n1.toNat*1)) h8 fun t3=>Zi (some {block:=k1,off:=0}) n n1 fun a5=>ZC cB (a5.add (n1.toNat*1)) h8 fun t4=>
     ZB t4 (Zi (some {block:=k1,off:=0}) n n1 fun a6=>ZU cB (a6.add (n1.toNat*1)) true h8 fun h10=>J5 PUnit.unit h10)
      (Zi (some {block:=k1,off:=0}) n n1 fun a7=>ZU cB (a7.add (n1.toNat*1)) t3 h8 fun h11=>J5 PUnit.unit h11)) (K h8):=by
 have hlm:=wm.1
 have hlk:=wk.1
 dsimp only at hlk
 refine Zb (fun z h'=>∃ (t:Nat) (dk:Hp),z=(t:Int)∧t≤xs.length∧ZBA v S h' (dk::dm::l)∧Own cB dk ⟨some ⟨k1,0,none⟩,n,n⟩ (ZCw (xs.take t) (ys.take t)++xs.drop t)) (fun z=>xs.length-z.toNat)
  ⟨0,dk,rfl,Nat.zero_le _,a.perm (List.Perm.swap _ _ _),by simpa [ZCw] using wk⟩ ?_
 rintro J z h2 again ⟨t,dk2,rfl,ht,a2,w2⟩
 refine ZH (fun hlt=>?_) fun hge=>?_
 ·have ht':t<xs.length:=by omega
  have hl2:(ZCw (xs.take t) (ys.take t)).length=t:=by unfold ZCw; rw [List.length_zipWith,List.length_take,List.length_take]; omega
  have hl3:(ZCw (xs.take t) (ys.take t)++xs.drop t).length=xs.length:=by rw [List.length_append,hl2,List.length_drop]; omega
  have hg:(ZCw (xs.take t) (ys.take t)++xs.drop t)[t]?=some xs[t]:=by
   rw [List.getElem?_append_right (by omega),hl2,Nat.sub_self,List.getElem?_drop,Nat.add_zero,List.getElem?_eq_getElem ht']
  have hbt:ys[t]?=some (ys[t]'(by omega)):=List.getElem?_eq_getElem (by omega)
  have hstep:=ZUY xs ys t ht' hab
  rw [ZAH (by omega)]
  refine ZN (fun _ h'=>∃ dk,ZBA v S h' (dk::dm::l)∧Own cB dk ⟨some ⟨k1,0,none⟩,n,n⟩ (ZCw (xs.take (t+1)) (ys.take (t+1))++xs.drop (t+1))) ?_ fun J5 hJ5=>?_
  ·rintro _ h' ⟨dk3,a3,w3⟩
   exact again _ _ ⟨t+1,dk3,rfl,by omega,a3,w3⟩ (by omega)
  ·refine ZM wm.row (Int.natCast_nonneg t) (by omega) fun p hp=>ZO wm.row (a2.sub (by simp)) rfl hp (i:=t) hbt (by rfl) ?_
   refine ZM w2.row (Int.natCast_nonneg t) (by omega) fun p hp=>ZO w2.row (a2.sub (by simp)) rfl hp (i:=t) hg (by rfl) ?_
   have hput:∀ {x:Bool},x=(xs[t]||ys[t]'(by omega))→Zi (some {block:=k1,off:=0}) n (t:Int) fun a6=>ZU cB (a6.add ((t:Int).toNat*1)) x h2 fun h10=>J5 PUnit.unit h10:=fun {x} hx=>by
    refine ZRe (sl:=⟨some ⟨k1,0,none⟩,n,n⟩) (x:=x) a2 w2 (by omega) fun d5 h5 a5 w5=>?_
    rw [hx,hstep] at w5
    exact hJ5 _ _ ⟨d5,a5,w5⟩
   refine ZD (fun e=>hput ?_) fun e=>hput ?_
   ·have e:xs[t]=true:=e
    rw [e]; rfl
   ·have e:xs[t]=false:=e
    rw [e]; rfl
 ·have hte:t=xs.length:=by omega
  subst hte
  rw [List.take_length,List.drop_length,List.append_nil,List.take_of_length_le (by omega)] at w2
  exact hK dk2 h2 ((a2.perm (List.Perm.swap _ _ _)).drop) w2
end
theorem ZHl:∀ (ps:List (Bool×Nat)) (acc:VS×List Bool),(∀ p∈ps,p.1=false)→ps.foldl ZAP acc=acc
 | [],acc,_=>rfl
 | p::ps,acc,h=>by
   have e:ZAP acc p=acc:=by unfold ZAP; rw [if_neg (by rw [h p (by simp)]; simp)]
   rw [List.foldl_cons,e]
   exact ZHl ps acc fun q hq=>h q (by simp [hq])
theorem ZIG {T:VS} {dn:List Bool} (h:dn.any id=false):ZDu T dn=(T,List.replicate T.ls.length false):=by
 unfold ZDu
 refine ZHl _ _ fun p hp=>?_
 obtain ⟨j,hj⟩:=List.getElem?_of_mem hp
 rw [List.getElem?_zipIdx] at hj
 cases hd:dn[j]? with
 | none=>rw [hd] at hj; cases hj
 | some x=>
   rw [hd] at hj
   simp only [Option.map_some,Option.some.injEq] at hj
   have:=List.any_eq_false.1 h x (List.mem_of_getElem? hd)
   rw [←hj]
   simpa using this
section
variable {v:VK} {S:VS} {h:Hp} {l:List Hp} {N A B:Nat}
theorem ZYw (ls:List LS):ups ls≤ls.length:=List.length_filter_le _ _
theorem ZS5 (dn:List Bool) (j:Nat) (hj:j<dn.length):(dn.take (j+1)).any id=((dn.take j).any id||dn[j]):=by
 rw [List.take_add_one,List.getElem?_eq_getElem hj,List.any_append]
 simp
theorem ZD7 {p:Sl} {g:Hp} {os:List Out} (a:ZBA v S h l) (hg:g∈l) (r:Row ZCL g p os) (ok:VOk N A B S) (hN:N≤10000) (ho:∀ o∈os,ZBv o) (hA:A+os.length+80000≤1000000000)
 {Q:PUnit→Hp→Prop} (hq:∀ T h',ZBA v T h' l→ZMm S os T→VOk N (A+os.length+80000) B T→T.ls.length=S.ls.length→Q ⟨⟩ h'):ZA TP 65 [Value.pointer v.p,Value.slice p.a p.len p.cap] (ZW []) h Q:=by
 refine c65 ?_
 unfold F65
 have hn8:=ok.n
 refine ZNB a hg r ok.l ho (by omega) (by omega) fun s1 d1 h1 a1 w1=>?_
 have sf:=ZEu (os:=os) ok.l ho (by omega)
 unfold ZMm at hq
 generalize hS0:(⟨S.d,(ZAy S.ls os).1⟩:VS)=S0 at*
 have ok0:VOk N (A+os.length) B S0:=by rw [←hS0]; exact ⟨ok.w,ok.f,sf.1,by dsimp only; rw [sf.2.1]; exact hn8⟩
 have hl0:S0.ls.length=S.ls.length:=by rw [←hS0]; exact sf.2.1
 have hd0:(ZAy S.ls os).2.length=S0.ls.length:=by rw [hl0]; exact sf.2.2.1
 generalize (ZAy S.ls os).2=dn0 at*
 have hu0:=ZYw S0.ls
 refine ZVC (fun f z h'=>∃ (T:VS) (dn:List Bool) (d:Hp),f=2*ups T.ls+(if dn.any id=true then 1 else 0)+(if z.2=true then 1 else 0)∧ZBA v T h' (d::l)∧Own cB d z.1 dn∧dn.length=T.ls.length∧VOk N (A+os.length+4096*(18-f)) B T∧f≤18∧T.ls.length=S.ls.length∧
  (z.2=false→ZEf S0 dn0 T)∧(z.2=true→∀ U,ZEf T dn U→ZEf S0 dn0 U)) (2*ups S0.ls+(if dn0.any id=true then 1 else 0)+1)
  ⟨S0,dn0,d1,rfl,a1,w1,hd0,ok0.mono (Nat.le_refl _) (Nat.le_add_right _ _) (Nat.le_refl _),by split<;>omega,hl0,(fun h=>by cases h),fun _ U hU=>hU⟩ ?_
 rintro J f ⟨sl,any⟩ h2 again ⟨T,dn,d,hf,a2,w2,hdl,ok2,hf18,hTl,hr0,hr1⟩
 dsimp only at hf w2 hr0 hr1 ⊢
 have hvl:=a2.len
 have hlen:=w2.1
 refine ZD (fun e=>?_) fun e=>?_
 ·subst e
  dsimp only [ZR,VK.p]
  refine ZF (cd:=cSl) (x:=v.sl) a2.ob (i:=1) rfl ?_
  refine ⟨by omega,by omega,by omega,by omega,?_⟩
  refine a2.new fun k1 h3 a3=>?_
  have en:((v.sl.len:Int)).toNat=T.ls.length:=by omega
  rw [en] at a3 ⊢
  have hzl:dn.zipIdx.length=dn.length:=List.length_zipIdx
  have hA4:A+os.length+4096*(18-f)+4096≤1000000000:=by omega
  have rk:∀ j,j≤dn.length→_:=fun j hj=>ZJ5 (B:=B) (dn.zipIdx.take j) (A:=A+os.length+4096*(18-f)) (acc:=(T,List.replicate T.ls.length false)) ok2 (by simp) (by rw [List.length_take]; omega)
  refine Zb (fun z h'=>∃ (j:Nat) (dk:Hp),z=((dn.take j).any id,(j:Int))∧j≤dn.length∧ZBA v ((dn.zipIdx.take j).foldl ZAP (T,List.replicate T.ls.length false)).1 h' (dk::d::l)∧Own cB dk ⟨some ⟨k1,0,none⟩,T.ls.length,T.ls.length⟩ ((dn.zipIdx.take j).foldl ZAP (T,List.replicate T.ls.length false)).2) (fun z=>dn.length-z.2.toNat)
   ⟨0,_,rfl,Nat.zero_le _,a3,ZU6⟩ ?_
  rintro J2 z h4 again2 ⟨j,dk,rfl,hj,a4,w4⟩
  dsimp only
  have hr:=rk j hj
  refine ZH (fun hlt=>?_) fun hge=>?_
  ·have hj':j<dn.length:=by omega
   have a0:dn.zipIdx[j]?=some (dn[j],j):=by rw [List.getElem?_zipIdx,List.getElem?_eq_getElem hj']; simp
   have est:=Z5 ZAP (T,List.replicate T.ls.length false) dn.zipIdx a0
   have ean:=ZS5 dn j hj'
   rw [ZAH (by omega)]
   generalize hacc:(dn.zipIdx.take j).foldl ZAP (T,List.replicate T.ls.length false)=acc at*
   obtain ⟨U,un⟩:=acc
   dsimp only at a4 w4 hr
   obtain ⟨ok4,hul,hUl,_⟩:=hr
   refine ZN (fun t h'=>t=(dn.take (j+1)).any id∧∃ dk,ZBA v (ZAP (U,un) (dn[j],j)).1 h' (dk::d::l)∧Own cB dk ⟨some ⟨k1,0,none⟩,T.ls.length,T.ls.length⟩ (ZAP (U,un) (dn[j],j)).2) ?_ fun J3 hJ3=>?_
   ·rintro t h' ⟨rfl,dk5,a5,w5⟩
    exact again2 _ _ ⟨j+1,dk5,rfl,by omega,by rw [est]; exact a5,by rw [est]; exact w5⟩ (by dsimp only; omega)
   ·refine ZM w2.row (Int.natCast_nonneg j) (by omega) fun q hq'=>ZO w2.row (a4.sub (by simp)) rfl hq' (i:=j) (List.getElem?_eq_getElem hj') (by rfl) ?_
    unfold ZAP at hJ3
    dsimp only at hJ3
    refine ZD (fun e=>?_) fun e=>?_
    ·have e:dn[j]=false:=by simpa using e
     rw [if_neg (by rw [e]; simp)] at hJ3
     exact hJ3 _ _ ⟨by rw [ean,e,Bool.or_false],dk,a4,w4⟩
    ·have e:dn[j]=true:=by simpa using e
     rw [if_pos e] at hJ3
     refine ZF (cd:=Go.Eng.cP) (x:=v.k.p) a4.ob (i:=0) rfl ?_
     obtain ⟨R,b4,cl⟩:=a4.desk
     refine Go.Proofs.YtkmniidiifpdgaaGreat.ZHV (who:=(j:Int)) b4 ok4.w hN fun s5 d5 h5 b5 w5 _ hol=>?_
     have hgw:=ZLC (who:=(j:Int)) ok4.w
     have hgf:=ZIV (who:=(j:Int)) ok4.w ok4.f
     have a5:=cl h5 (d5::dk::d::l) (ZAU U.d (j:Int)).1 (b5.perm (List.Perm.swap _ _ _))
     have hAl:=ok4.l
     have hsfx:=ZEu (os:=(ZAU U.d (j:Int)).2) hAl hgf.2 (by rw [List.length_take]; omega)
     refine ZNB (g:=d5) a5 (by simp) w5.row hAl hgf.2 (by rw [List.length_take]; omega) (by dsimp only; omega) fun s6 d6 h6 a6 w6=>?_
     have w6:Own cB d6 s6 (ZAy U.ls (ZAU U.d (j:Int)).2).2:=w6
     have a7:ZBA v ⟨(ZAU U.d (j:Int)).1,(ZAy U.ls (ZAU U.d (j:Int)).2).1⟩ h6 (d6::dk::d::l):=(a6.perm (((List.Perm.swap _ _ _)).trans (List.Perm.refl _))).drop
     refine ZS0 a7 w4 w6 (by rw [hul,hsfx.2.2.1]) (by omega) fun d8 h8 a8 w8=>?_
     exact hJ3 _ _ ⟨by rw [ean,e,Bool.or_true],d8,a8,w8⟩
  ·have hje:j=dn.length:=by omega
   subst hje
   rw [List.take_length]
   have hfull:dn.zipIdx.take dn.length=dn.zipIdx:=by rw [←hzl,List.take_length]
   rw [hfull] at a4 w4 hr
   have hrv:dn.zipIdx.foldl ZAP (T,List.replicate T.ls.length false)=ZDu T dn:=rfl
   rw [hrv] at a4 w4 hr
   obtain ⟨ok4,hul,hUl,hct,_⟩:=hr
   rw [ZKp] at hct
   dsimp only at hUl hct
   have a5:ZBA v (ZDu T dn).1 h4 (dk::l):=(a4.perm (List.Perm.swap _ _ _)).drop
   have h8:=ok2.n
   generalize hf2:2*ups (ZDu T dn).1.ls+(if (ZDu T dn).2.any id=true then 1 else 0)+(if dn.any id=true then 1 else 0)=f2
   have hstep:f2<f:=by
    cases ea:dn.any id with
    | false=>
      rw [ea] at hf hf2
      rw [ZIG ea] at hf2
      have er:(List.replicate T.ls.length false).any id=false:=by
          rw [List.any_eq_false]
          intro x hx
          rw [List.eq_of_mem_replicate hx]; simp
      dsimp only at hf2
      rw [er] at hf2
      simp at hf hf2
      omega
    | true=>
      rw [ea] at hf hf2
      cases eb:(ZDu T dn).2.any id with
      | true=>
        have:=ZSq eb
        rw [eb] at hf2
        simp at hf hf2
        omega
      | false=>
        rw [eb] at hf2
        simp at hf hf2
        omega
   refine again f2 _ _ ⟨(ZDu T dn).1,(ZDu T dn).2,dk,hf2.symm,a5,w4,hul,?_,?_,hUl.trans hTl,?_,?_⟩ ?_
   ·refine ok4.mono (Nat.le_refl _) ?_ (Nat.le_refl _)
    rw [hzl,hdl]
    have hff:=hstep
    have h512:512*T.ls.length≤4096:=by omega
    have h6:4096*(18-f)+4096≤4096*(18-f2):=by
     rw [←Nat.mul_succ]
     exact Nat.mul_le_mul_left _ (by omega)
    omega
   ·omega
   ·intro ea
    rw [ZIG ea]
    exact hr1 rfl T (ZEf.done ea)
   ·exact fun ea U hU=>hr1 rfl U (ZEf.step ea hU)
   ·exact hstep
 ·have e:any=false:=e
  subst e
  exact hq T h2 a2.drop (hr0 rfl) (ok2.mono (Nat.le_refl _) (by omega) (Nat.le_refl _)) hTl
end
def ZLq (beat:Int):LS:=⟨[],0,ZWD beat.toNat,[]⟩
def ZEs (bs:List Bond) (ps:List Z3) (look beat:Int):VS:=⟨ZDn bs ps look beat,List.replicate ps.length (ZLq beat)⟩
theorem ZNJ {bs:List Bond} {ps:List Z3} {look beat:Int} (h:ZCt bs ps look beat=true):VOk 0 0 0 (ZEs bs ps look beat):=by
 have hw:=ZDV h
 have hb:1≤beat∧beat≤1000:=by
  unfold ZCt inB at h
  simp only [Bool.and_eq_true,decide_eq_true_eq] at h
  omega
 refine ⟨hw,⟨fun b hb=>?_,(fun q hq=>by cases hq),fun a ha=>by cases ha⟩,fun x hx=>?_,?_⟩
 ·have:=List.eq_of_mem_replicate hb
  subst this
  exact fun x hx=>by cases hx
 ·have:=List.eq_of_mem_replicate hx
  subst this
  exact ⟨(fun b hb=>by cases hb),Nat.le_refl 1,(fun f hf=>by cases hf),Nat.le_refl 0,(by show 1≤beat.toNat∧beat.toNat≤1000; omega),Nat.le_refl 0,Nat.le_refl 0,Nat.zero_le _,ZDT.nil⟩
 ·show (List.replicate ps.length (ZLq beat)).length≤8
  rw [List.length_replicate]
  exact hw.pl
section
variable {h:Hp} {l:List Hp}
theorem ZSN {sb sp:Sl} {gb gp:Hp} {bs:List Bond} {ps:List Z3} {look beat:Int} (o:On h l) (hb:gb∈l) (rb:Row Z8 gb sb bs) (hp:gp∈l) (rp:Row Z0 gp sp ps) (hr:ZCt bs ps look beat=true)
 {Q:Option Addr→Hp→Prop} (hq:∀ v h',ZBA v (ZEs bs ps look beat) h' l→Q v.p h'):ZA TP 24 [ZAg.enc ⟨sb,sp,look,beat⟩] Go.Eng.cP h Q:=by
 have hpl:ps.length≤8:=(ZDV hr).pl
 have hbt:1≤beat∧beat≤1000:=by
  unfold ZCt inB at hr
  simp only [Bool.and_eq_true,decide_eq_true_eq] at hr
  omega
 have hlp:=rp.1
 refine c24 (p0:=⟨sb,sp,look,beat⟩) ?_
 unfold F24
 refine ZIi o hb rb hp rp hr fun k h1 a1=>?_
 obtain ⟨D,o1,wD⟩:=a1
 refine ZQ rfl ?_
 refine ZI (vs:=ZBe ⟨0,k,⟨none,0,0⟩,[]⟩) o1 fun k2 h2 o2=>?_
 refine Zb (fun z h'=>∃ (j:Nat) (sK:Sl) (dK:Hp) (ks:List (Option Addr)) (cs:List Hp),z=(j:Int)∧j≤ps.length∧ks.length=j∧On h' (ob k2 (ZBe ⟨k2,k,sK,[]⟩) 152::dK::(cs++(D::l)))∧Own Go.Eng.cP dK sK ks∧ZJa ks (List.replicate j (ZLq beat)) cs) (fun z=>ps.length-z.toNat)
  ⟨0,⟨none,0,0⟩,Hp.emp,[],[],rfl,Nat.zero_le _,rfl,o2.emp.swap,Own.nil _,⟨rfl,rfl,fun i p b c h=>by cases h⟩⟩ ?_
 rintro J z h3 again ⟨j,sK,dK,ks,cs,rfl,hj,hkl,o3,wK,wb⟩
 refine ZH (fun hlt=>?_) fun hge=>?_
 ·have hj':j<ps.length:=by
   have:(j:Int)<(sp.len:Int):=hlt
   omega
  refine ZJ (cd:=cSl) (x:=sK) o3 0 (i:=1) rfl rfl ?_
  refine ZU0 (n:=beat) o3 (fun h=>by omega) fun _ _ p4 c4 h4 o4 w4=>?_
  refine ⟨⟨Hp.sub_rds (o4.get (i:=1) rfl) (ZCC (i:=1) rfl),trivial⟩,?_⟩
  refine ZI o4 fun k5 h5 o5=>?_
  have o5':=o5.pick [3,0,2,1] 4 (by decide) (by decide)
  refine ZV (cd:=Go.Eng.cP) (g:=ob k5 [Value.pointer p4] 153) (s:=sK) (t:=⟨some ⟨k5,0,none⟩,1,1⟩) (ys:=[p4]) o5' rfl wK (by decide) (Zf (by rfl) rfl) (o5.get (i:=0) rfl) ?_ fun d6 p n m h6 o6 w6=>?_
  ·rw [List.length_singleton]
   exact Nat.le_trans (Nat.mul_le_mul_right _ (show _≤100 by omega)) (by decide)
  ·refine ZZ (cd:=cSl) (i:=1) (x:=⟨p,n,m⟩) (vs':=ZBe ⟨k2,k,⟨p,n,m⟩,[]⟩) (o6.pick [2,0,1,3] 4 (by decide) (by decide)) rfl rfl (by show 1+1≤2; omega) fun h7 o7=>?_
   rw [ZAH (by omega)]
   refine again _ _ ⟨j+1,⟨p,n,m⟩,d6,ks++[p4],cs++[c4],rfl,by omega,by simp [hkl],?_,w6,?_⟩ (by omega)
   ·have o8:=o7.pick [0,1,3] 4 (by decide) (by decide)
    refine o8.perm (List.Perm.cons _ (List.Perm.cons _ ?_))
    show (c4::(cs++_)).Perm ((cs++[c4])++_)
    rw [List.append_assoc]
    exact List.perm_middle.symm
   ·rw [List.replicate_succ']
    exact wb.push w4
 ·have hje:j=ps.length:=by
   have:¬(j:Int)<(sp.len:Int):=hge
   omega
  subst hje
  refine hq ⟨k2,k,sK,ks⟩ h3 ⟨dK,D,ks,cs,o3.perm (List.Perm.cons _ (List.Perm.cons _ ?_)),⟨wK,rfl⟩,wD,wb⟩
  exact List.perm_middle
end
def Ids (P:Int→Prop) (l:List ZE):Prop:=∀ x∈l,P x.ID
theorem Ids.drop {P:Int→Prop} {l:List ZE} (h:Ids P l) (id:Int):Ids P (ZBu l id):=fun x hx=>h x ((ZAj l id).subset hx)
theorem Ids.less {P:Int→Prop} {l:List ZE} (h:Ids P l) (id left:Int):Ids P (ZDl l id left).1:=by
 rcases ZEz l id left with e|⟨i,o,ho,_,_,_,e⟩
 ·rw [e]; exact h
 ·rw [e]
  intro x hx
  rcases List.mem_or_eq_of_mem_set hx with hx|hx
  ·exact h x hx
  ·subst hx
   exact h o (List.mem_of_getElem? ho)
theorem Ids.add {P:Int→Prop} {l:List ZE} (h:Ids P l) {o:ZE} (ho:P o.ID):Ids P (ZN9 l o).1:=by
 unfold ZN9
 split
 ·exact h
 ·split
  ·exact h
  ·intro x hx
   rcases List.mem_append.1 hx with hx|hx
   ·exact h x hx
   ·simp only [List.mem_singleton] at hx
    subst hx; exact ho
def ZR0 (P:Int→Prop) (g:ZSs):Prop:=P g.ID∧1≤g.Left∧g.Left≤1000000
def ZWg (P:Int→Prop) (f:ZJl):Prop:=P f.Maker∧0≤f.Left∧f.Left≤1000000
def ZIc (P:Int→Prop) (c:ZCx):Prop:=Ids P c.l∧(∀ f∈c.fills,ZWg P f)∧(∀ g∈c.gone,ZR0 P g)∧0≤c.o.Left∧c.o.Left≤1000000
theorem ZIc.meet {P:Int→Prop} {c:ZCx} {x:ZE} (h:ZIc P c) (hx:1≤x.Left∧x.Left≤1000000) (hp:P x.ID):ZIc P (Zp c x):=by
 obtain ⟨h1,h2,h3,h4,h5⟩:=h
 have hl:=ZFy (c:=c) (x:=x) ⟨h4,h5⟩ (by omega)
 refine ⟨?_,?_,?_,hl⟩
 ·unfold Zp
  split
  ·exact h1
  ·split
   ·exact h1.drop _
   ·dsimp only
    split
    ·exact h1.drop _
    ·exact h1.less _ _
 ·unfold Zp
  split
  ·exact h2
  ·split
   ·exact h2
   ·intro f hf
    rcases List.mem_append.1 hf with hf|hf
    ·exact h2 f hf
    ·simp only [List.mem_singleton] at hf
     subst hf
     refine ⟨hp,?_⟩
     unfold ZFd
     dsimp only
     omega
 ·unfold Zp
  split
  ·exact h3
  ·split
   ·intro g hg
    rcases List.mem_append.1 hg with hg|hg
    ·exact h3 g hg
    ·simp only [List.mem_singleton] at hg
     subst hg
     exact ⟨hp,hx⟩
   ·exact h3
theorem ZXL {P:Int→Prop} {l:List ZE} {o:ZE} {how:Int} (h:Ids P l) (hs:ZH1 l) (ho:0≤o.Left∧o.Left≤1000000):ZIc P (ZBF l o how):=by
 have key:∀ (ms:List ZE) (c:ZCx),(∀ y∈ms,y∈l)→ZIc P c→ZIc P (ms.foldl Zp c):=by
  intro ms
  induction ms with
  | nil=>intro c _ hc; exact hc
  | cons x ms ih=>
    intro c hms hc
    have hx:=hms x (by simp)
    exact ih (Zp c x) (fun y hy=>hms y (by simp [hy])) (hc.meet ⟨(hs x hx).1,(hs x hx).2.1⟩ (h x hx))
 exact key _ _ (fun y hy=>ZCS hy) ⟨h,by simp,by simp,ho.1,ho.2⟩
theorem ZZr {P:Int→Prop} {l:List ZE} {o:ZE} {how:Int} (h:Ids P l) (hs:ZH1 l) (ho:P o.ID):
 Ids P (doV l o how).1∧(∀ f∈(doV l o how).2.1,ZWg P f)∧(∀ g∈(doV l o how).2.2.1,ZR0 P g)∧0≤(doV l o how).2.2.2.1∧(doV l o how).2.2.2.1≤1000000:=by
 unfold doV
 by_cases e:ZCr l o how≠0
 ·rw [if_pos e]
  exact ⟨h,by simp,by simp,Int.le_refl 0,by show (0:Int)≤1000000; omega⟩
 ·rw [if_neg e]
  have hl:=ZIe (Classical.not_not.1 e)
  obtain ⟨c1,c2,c3,c4,c5⟩:=ZXL (how:=how) h hs (o:=o) ⟨by omega,hl.2⟩
  have hid:(ZBF l o how).o.ID=o.ID:=by
   unfold ZBF
   have key:∀ (ms:List ZE) (c:ZCx),(ms.foldl Zp c).o.ID=c.o.ID:=by
    intro ms
    induction ms with
    | nil=>intro c; rfl
    | cons x ms ih=>intro c; rw [List.foldl_cons,ih,(ZFr c x).1]
   exact key _ _
  refine ⟨?_,c2,c3,c4,c5⟩
  dsimp only
  split
  ·exact c1.add (by rw [hid]; exact ho)
  ·exact c1
structure COk (N:Nat) (c:DC):Prop where
 w:WOk N c.d
 f:FOk c.d
 o:∀ o∈c.outs,ZBv o
 i:I64 c.id
theorem Zr {n:Int} (h1:0≤n) (h2:n≤1000000):I64 n:=⟨by omega,by omega⟩
theorem ZE6 {os:List Out} (h:∀ o∈os,ZBv o) {x:Out} (hx:ZBv x):∀ o∈os++[x],ZBv o:=fun o ho=>(List.mem_append.1 ho).elim (h o) fun e=>by
 simp only [List.mem_singleton] at e
 subst e; exact hx
theorem COk.tell {N:Nat} {c:DC} (h:COk N c) {to kind:Int} {ns:List Int} (hk:I64 kind) (hn:∀ n∈ns,I64 n):COk N (ZBs c to kind ns):=⟨h.w,h.f,ZE6 h.o (ZD6 hk hn),h.i⟩
theorem ZSm {who:Int}:∀ (gs:List ZSs) (c:DC),(∀ g∈gs,ZR0 I64 g)→(∀ o∈c.outs,ZBv o)→∀ o∈(gs.foldl (ZC3 who) c).outs,ZBv o
 | [],c,_,h=>h
 | g::gs,c,hg,h=>by
   rw [List.foldl_cons]
   refine ZSm gs (ZC3 who c g) (fun x hx=>hg x (by simp [hx])) ?_
   have hgg:=hg g (by simp)
   refine ZE6 h (ZD6 ⟨by decide,by decide⟩ fun n hn=>?_)
   simp only [List.mem_cons,List.not_mem_nil,or_false] at hn
   rcases hn with rfl|rfl
   ·exact hgg.1
   ·exact Zr (by have:=hgg.2; omega) hgg.2.2
theorem ZRr {who n:Int} {o:ZE} (hw:I64 who) (hn:I64 n) (ho:I64 o.ID):∀ (fs:List ZJl) (st:DC×Int),(∀ f∈fs,ZKE f∧ZWg I64 f)→I64 st.1.d.now→st.1.d.trades.length+fs.length≤1000000→(∀ o∈st.1.outs,ZBv o)→∀ x∈(fs.foldl (ZCK who n o) st).1.outs,ZBv x
 | [],st,_,_,_,h=>h
 | f::fs,st,hf,hnow,hl,h=>by
   rw [List.length_cons] at hl
   rw [List.foldl_cons]
   have hff:=hf f (by simp)
   obtain ⟨⟨f1,f2,f3,f4,f5,f6⟩,g1,g2,g3⟩:=hff
   have hr:=ZDS (st.2-f.Qty)
   have ht:ZCc (ZLJ st.1.d.trades (ZBI st.1.d o.Side who f.MakerParty (ZOc n f))):=by
    unfold ZLJ ZBI ZOc ZCc
    dsimp only
    refine ⟨Zr (by omega) (by omega),hn,?_,?_,Zr (by omega) (by omega),Zr (by omega) (by omega),Zr (by omega) (by omega),hnow⟩
    ·split
     ·exact Zr (by omega) (by omega)
     ·exact hw
    ·split
     ·exact hw
     ·exact Zr (by omega) (by omega)
   refine ZRr hw hn ho fs (ZCK who n o st f) (fun x hx=>hf x (by simp [hx])) hnow ?_ ?_
   ·show (st.1.d.trades++[_]).length+fs.length≤1000000
    rw [List.length_append,List.length_singleton]; omega
   ·intro x hx
    have hx:x∈((st.1.outs++[ZGh f.MakerParty 20 [f.Maker,f.Price,f.Qty,f.Left]])++[ZGh who 20 [o.ID,f.Price,f.Qty,IntKind.i64.wrap (st.2-f.Qty)]])++ZH5 (ZLJ st.1.d.trades (ZBI st.1.d o.Side who f.MakerParty (ZOc n f))):=hx
    rcases List.mem_append.1 hx with hx|hx
    ·refine ZE6 (ZE6 h (ZD6 ⟨by decide,by decide⟩ fun n hn=>?_)) (ZD6 ⟨by decide,by decide⟩ fun n hn=>?_) x hx
     ·simp only [List.mem_cons,List.not_mem_nil,or_false] at hn
      rcases hn with rfl|rfl|rfl|rfl
      ·exact g1
      ·exact Zr (by omega) (by omega)
      ·exact Zr (by omega) (by omega)
      ·exact Zr (by omega) (by omega)
     ·simp only [List.mem_cons,List.not_mem_nil,or_false] at hn
      rcases hn with rfl|rfl|rfl|rfl
      ·exact ho
      ·exact Zr (by omega) (by omega)
      ·exact Zr (by omega) (by omega)
      ·exact hr
    ·exact ZN5 ht x hx
theorem COk.meets {N:Nat} {c:DC} (h:COk N c) (hN:N≤9000) {who n how:Int} {o:ZE} (hn:0≤n∧n<c.d.books.length) (hw:0≤who∧who<8) (ho:0≤o.Owner∧o.Owner<8) (hi:I64 o.ID):COk (N+1) (ZAX c who n o how).1:=by
 have hbk:=ZB0 h.w hn
 have hget:=ZAw hn
 have hids:Ids I64 (Zq c.d n):=fun x hx=>h.f.bo (Zq c.d n) (by rw [hget]; exact List.getElem_mem _) x hx
 have hp:=ZZr (o:=ZGP c o) (how:=how) hids hbk.2.1 hi
 have hdo:=ZNb (o:=ZGP c o) (how:=how) hbk rfl ho
 obtain ⟨e1,e2,e3⟩:=ZED c who n o how
 have hl4:=h.w.l4
 have hbl:=h.w.bl4
 refine ⟨h.w.meets hn ho,?_,?_,by rw [e2]; exact h.i⟩
 ·rw [e1]
  exact {h.f with bo:=fun b hb=>(List.mem_or_eq_of_mem_set hb).elim (h.f.bo b) fun e=>by subst e; exact hp.1}
 ·unfold ZAX
  have hfl:=hdo.2.2.1
  have hfo:=hdo.2.1
  generalize doV (Zq c.d n) (ZGP c o) how=r at hp hfl hfo
  by_cases he:r.2.2.2.2≠0
  ·rw [if_pos he]; exact h.o
  ·rw [if_neg he]
   have hg:=ZSm (who:=who) r.2.2.1 (ZJ4 c n r.1) hp.2.2.1 h.o
   have hgd:=(ZJS who r.2.2.1 (ZJ4 c n r.1)).1
   have hfs:=ZRr (who:=who) (n:=n) (o:=o) (Zr (by omega) (by omega)) (Zr (by omega) (by omega)) hi r.2.1 (r.2.2.1.foldl (ZC3 who) (ZJ4 c n r.1),o.Left) (fun f hf=>⟨hfo f hf,hp.2.1 f hf⟩) (by dsimp only; rw [hgd]; exact h.w.now) (by dsimp only; rw [hgd]; show c.d.trades.length+_≤_; omega) hg
   dsimp only
   split
   ·refine ZE6 hfs (ZD6 ⟨by decide,by decide⟩ fun n hn=>?_)
    simp only [List.mem_cons,List.not_mem_nil,or_false] at hn
    rcases hn with rfl|rfl
    ·exact hi
    ·exact Zr hp.2.2.2.1 hp.2.2.2.2
   ·exact hfs
def ZDp (m:Msg):Prop:=I64 m.Kind∧I64 m.F_0∧I64 m.F_1∧I64 m.F_2∧I64 m.F_3∧I64 m.F_4∧I64 m.F_5
theorem COk.mono {N N':Nat} {c:DC} (h:COk N c) (hN:N≤N'):COk N' c:=⟨h.w.mono hN,h.f,h.o,h.i⟩
theorem COk.id {N:Nat} {c:DC} (h:COk N c) {id:Int} (hi:I64 id):COk N {c with id:=id}:=⟨h.w,h.f,h.o,hi⟩
theorem COk.book {N:Nat} {c:DC} (h:COk N c) {n:Int} {x:List ZE} (hx:ZAd c.d.seq x) (hi:Ids I64 x):COk N {c with d:=ZBV c.d n x}:=
 ⟨h.w.book hx,{h.f with bo:=fun b hb=>(List.mem_or_eq_of_mem_set hb).elim (h.f.bo b) fun e=>by subst e; exact hi},h.o,h.i⟩
theorem ZUt {N:Nat} {c:DC} (h:COk N c) {n:Int} (hn:0≤n∧n<c.d.books.length):Ids I64 (Zq c.d n):=fun x hx=>h.f.bo (Zq c.d n) (by rw [ZAw hn]; exact List.getElem_mem _) x hx
theorem ZVg {N:Nat} {c:DC} (h:COk N c) (hN:N≤9000) {who:Int} {m:Msg} (hw:0≤who∧who<8):COk (N+1) (ZD8 c who m).1:=by
 have h':=h.mono (Nat.le_succ N)
 have hc1:=h.w.c1
 unfold ZD8
 split
 ·exact h'
 rename_i hb
 have hb:isBond c.d m.F_0=true:=by simpa using hb
 split
 ·exact h'
 split
 ·exact h'
 have hm:=h.meets hN (who:=who) (n:=m.F_0) (how:=m.F_4) (o:=ZBQ c who m) (ZBC.1 hb) hw hw (Zr (by show 0≤c.d.order+1; omega) (by show c.d.order+1≤_; omega))
 have hd:=(ZED c who m.F_0 (ZBQ c who m) m.F_4).1
 generalize ZAX c who m.F_0 (ZBQ c who m) m.F_4=r at*
 have ho:r.1.d.order=c.d.order:=by rw [hd]
 split
 ·refine ⟨{hm.w with c1:=by show 0≤r.1.d.order+1∧r.1.d.order+1≤((N+1:Nat):Int); omega},{hm.f with},hm.o,?_⟩
  show I64 (r.1.d.order+1)
  exact Zr (by omega) (by omega)
 ·exact hm
theorem ZU3 {N:Nat} {c:DC} (h:COk N c) (hN:N≤9000) {who:Int} {m:Msg} (hw:0≤who∧who<8) (hm:ZDp m):COk (N+1) (ZB9 c who m).1:=by
 have h':=h.mono (Nat.le_succ N)
 unfold ZB9
 split
 ·exact ZVg h hN hw
 cases hf:ZBR c.d m.F_0 with
 | none=>exact h'
 | some n=>
   dsimp only
   obtain ⟨hn,x,hx,hxm,hxi,hR⟩:=ZDL hf
   have hnn:0≤((n:Nat):Int)∧((n:Nat):Int)<c.d.books.length:=⟨Int.natCast_nonneg _,by omega⟩
   have hbk:=ZB0 h.w hnn
   have hids:=ZUt h hnn
   have hxb:x∈Zq c.d ((n:Nat):Int):=by rw [ZAw hnn]; exact hxm
   have hxs:=hbk.2.1 x hxb
   have hxo:=hbk.2.2.2 x hxb
   rw [hR]
   dsimp only
   split
   ·exact h'
   split
   ·unfold ZC0
    dsimp only
    split
    ·exact h'.id hm.2.1
    split
    ·exact (h'.id hm.2.1).book (hbk.less _ _) (hids.less _ _)
    ·have h2:COk N {c with id:=m.F_0,d:=ZBV c.d (n:Int) (ZBu (Zq c.d (n:Int)) x.ID)}:=(h.id hm.2.1).book (c:={c with id:=m.F_0}) (hbk.sub (ZAj _ _)) (hids.drop _)
     exact h2.meets hN (o:=ZF2 x m.F_1 m.F_2) (by show 0≤_∧_<((List.set _ _ _).length:Int); rw [List.length_set]; exact hnn) hw hxo.2 (hids x hxb)
   ·unfold ZQ4
    refine ((h'.id hm.2.1).book (c:={c with id:=m.F_0}) (n:=(n:Int)) (hbk.sub (ZAj _ m.F_0)) (hids.drop _)).tell ⟨by decide,by decide⟩ fun k hk=>?_
    simp only [List.mem_cons,List.not_mem_nil,or_false] at hk
    rcases hk with rfl|rfl
    ·exact hm.2.1
    ·exact Zr (by omega) hxs.2.1
theorem ZYH {N:Nat} {c:DC} (h:COk N c) {n is:Int} (hn:I64 n):COk N (ZHG c n is).1:=by
 unfold ZHG
 split
 ·exact h
 rename_i hb
 have hb:isBond c.d n=true:=by simpa using hb
 split
 ·exact h
 obtain ⟨hm,_⟩:=ZAv hb h.w.bl
 refine ⟨{h.w with bonds:=fun b hb'=>?_,bl:=by show c.d.books.length=(List.set _ _ _).length; rw [List.length_set]; exact h.w.bl},{h.f with},h.o,hn⟩
 rcases List.mem_or_eq_of_mem_set hb' with hb'|hb'
 ·exact h.w.bonds b hb'
 ·subst hb'
  exact (show _ from h.w.bonds (ZAO c.d n) hm)
def ZSt (a:Ask):Prop:=I64 a.Side∧I64 a.Ends∧I64 a.Hit
theorem ZWy {xs:List Ask} {id:Int} {f:Ask→Ask} (h:∀ a∈xs,ZSt a) (hf:∀ a,ZSt a→ZSt (f a)):∀ a∈upd Ask.ID id f xs,ZSt a:=fun a ha=>by
 obtain ⟨x,hx,rfl|⟨_,rfl⟩⟩:=ZHd ha
 ·exact h a hx
 ·exact hf x (h x hx)
theorem ZF9:I64 0:=⟨by decide,by decide⟩
theorem ZVD {xs:List Ask} {id st:Int} (h:∀ a∈xs,ZSt a):∀ a∈(ZP6 xs id st).1,ZSt a:=by
 rcases ZF1 xs id st with e|e<;>rw [e]
 ·exact h
 ·exact ZWy h fun a ha=>⟨ha.1,ha.2.1,by unfold ZWJ; dsimp only; split; exact ZF9; exact ha.2.2⟩
theorem ZW8 {xs:List Ask} {id:Int} (h:∀ a∈xs,ZSt a):∀ a∈(ZGX xs id).1,ZSt a:=by
 rcases ZEw xs id with e|e<;>rw [e]
 ·exact h
 ·exact ZWy h fun a ha=>⟨ha.1,ha.2.1,ZF9⟩
theorem ZWs {xs:List Ask} {id q u:Int} (h:∀ a∈xs,ZSt a) (hq:I64 q):∀ a∈(ZDc xs id q u).1,ZSt a:=by
 rcases ZG3 xs id q u with e|e<;>rw [e]
 ·exact h
 ·exact ZWy h fun a ha=>⟨ha.1,ha.2.1,hq⟩
theorem ZQX {xs:List Za} {id:Int} (h:∀ q∈xs,I64 q.ID∧I64 q.Expires):∀ q∈ZIP xs id,I64 q.ID∧I64 q.Expires:=fun q hq=>h q (List.mem_filter.1 hq).1
theorem ZY8 {P:Int→Prop} {a b:Int} (ha:P a) (hb:P b):∀ n∈[a,b],P n:=fun n hn=>by
 simp only [List.mem_cons,List.not_mem_nil,or_false] at hn
 rcases hn with rfl|rfl
 ·exact ha
 ·exact hb
theorem ZZw {P:Int→Prop} {a:Int} (ha:P a):∀ n∈[a],P n:=fun n hn=>by
 simp only [List.mem_cons,List.not_mem_nil,or_false] at hn
 subst hn; exact ha
theorem ZZs {P:Int→Prop} {a b c:Int} (ha:P a) (hb:P b) (hc:P c):∀ n∈[a,b,c],P n:=fun n hn=>by
 simp only [List.mem_cons,List.not_mem_nil,or_false] at hn
 rcases hn with rfl|rfl|rfl
 ·exact ha
 ·exact hb
 ·exact hc
theorem ZQH {N:Nat} {c:DC} (h:COk N c) (x:Ask) (hx:I64 x.ID):COk N (ZJZ c x):=by
 have h1:COk N (ZUk c x.ID 4):=⟨(h.w.end x.ID 4).clear x.ID,{h.f with qo:=ZQX h.f.qo,ao:=ZVD h.f.ao},h.o,h.i⟩
 exact h1.tell ⟨by decide,by decide⟩ (ZZw hx)
theorem ZIX {N:Nat} {c:DC} (h:COk N c) (x:Ask) (hx:I64 x.ID) (hh:I64 x.Hit):COk N (ZAT c x):=by
 have h1:COk N (ZFk c x.Hit):=⟨h.w.kill x.Hit,{h.f with qo:=ZJJ h.f.qo},h.o,h.i⟩
 unfold ZAT
 split
 ·exact ZQH h1 x hx
 ·have h2:COk N {ZFk c x.Hit with d:={(ZFk c x.Hit).d with asks:=(ZGX c.d.asks x.ID).1}}:=⟨h1.w.back x.ID,{h1.f with ao:=ZW8 h.f.ao},h.o,h.i⟩
  exact h2.tell ⟨by decide,by decide⟩ (ZY8 hx hh)
theorem ZIZ {N:Nat} {S:DS} (i:WOk N S) (hN:N≤9000) {a:Ask} (ha:a∈S.asks):I64 a.ID∧I64 a.Bond∧I64 a.Qty∧I64 a.Client:=by
 have:=i.ai a ha
 have h4:=i.c4
 have hbl:=i.bl4
 exact ⟨Zr (by omega) (by omega),Zr (by omega) (by omega),Zr (by omega) (by omega),Zr (by omega) (by omega)⟩
theorem ZYY {N:Nat} {c:DC} (h:COk N c) (hN:N≤9000) {who id:Int} (hi:I64 id):COk N (ZHx c who id).1:=by
 unfold ZHx
 split
 ·rename_i e
  obtain ⟨hm,_⟩:=ZDt e
  exact ZQH (h.id hi) _ (ZIZ h.w hN hm).1
 ·exact h
theorem ZXw {N:Nat} {c:DC} (h:COk N c) {who id:Int} (hi:I64 id):COk N (ZJX c who id).1:=by
 unfold ZJX
 cases hg:getQ c.d.quotes id with
 | none=>exact h
 | some q=>
   dsimp only
   split
   ·exact h
   split
   ·exact h
   ·have e:(ZH8 c.d.quotes id who).1=c.d.quotes∨(ZH8 c.d.quotes id who).1=killQ c.d.quotes id:=by
     unfold ZH8
     rw [hg]
     dsimp only
     split
     ·exact .inl rfl
     split
     ·exact .inl rfl
     ·exact .inr rfl
    rcases e with e|e<;>rw [e]
    ·exact h.id hi
    ·exact ⟨h.w.kill id,{h.f with qo:=ZJJ h.f.qo},h.o,hi⟩
theorem ZYp {N:Nat} {c:DC} (h:COk N c) {a:Ask} {q:Za} (ha:I64 a.ID) (hq:I64 q.ID):COk (N+1) (ZPf c a q).1:=by
 have h':=h.mono (Nat.le_succ N)
 unfold ZPf
 split
 ·exact h'
 split
 ·exact h'
 split
 ·exact h'
 split
 ·exact h'
 ·have h1:COk (N+1) {c with d:={c.d with asks:=(ZDc c.d.asks a.ID q.ID (ZD9 c.d)).1,due:=c.d.due+1},id:=a.ID}:=⟨(h.w.look a.ID q.ID (ZD9 c.d)).due1,{h.f with ao:=ZWs h.f.ao hq},h.o,ha⟩
  exact h1.tell ⟨by decide,by decide⟩ (ZZs ha hq (ZDS _))
theorem ZXb {N:Nat} {c:DC} (h:COk N c) (hN:N≤9000) {who:Int} {m:Msg}:COk (N+1) (ZH7 c who m).1:=by
 have h':=h.mono (Nat.le_succ N)
 unfold ZH7
 split
 ·cases hg:getQ c.d.quotes m.F_0 with
  | none=>exact h'
  | some q=>
    dsimp only
    split
    ·exact h'
    ·rename_i e
     obtain ⟨hm,_⟩:=ZDt (Classical.not_not.1 e)
     exact ZYp h (ZIZ h.w hN hm).1 (h.f.qo q (ZJN hg).1).1
 ·split
  ·exact h'
  ·rename_i e
   obtain ⟨hm,_⟩:=ZDt (Classical.not_not.1 e)
   split
   ·exact h'
   ·rename_i eb
    have hbm:=ZM8 (s:=(ZBm c.d who m.F_0).1.Side) (qs:=c.d.quotes.filter (ZPO (ZBm c.d who m.F_0).1.ID c.d.now)) (by simpa using eb)
    exact ZYp h (ZIZ h.w hN hm).1 (h.f.qo _ (List.mem_filter.1 hbm).1).1
theorem ZUD {N:Nat} {c:DC} (h:COk N c) (hN:N≤9000) {who:Int} {m:Msg} (hw:0≤who∧who<8) (hm:ZDp m):COk (N+1) (ZCv c who m).1:=by
 have h':=h.mono (Nat.le_succ N)
 have hc3:=h.w.c3
 unfold ZCv
 split
 ·exact (ZXw h hm.2.1).mono (Nat.le_succ N)
 cases hg:getA c.d.asks m.F_0 with
 | none=>exact h'
 | some a=>
   dsimp only
   obtain ⟨hm1,_⟩:=ZDK hg
   have hai:=ZIZ h.w hN hm1
   split
   ·exact h'
   split
   ·exact h'
   split
   ·exact h'
   split
   ·exact h'
   rename_i hp
   split
   ·exact h'
   split
   ·exact h'
   rename_i hput
   have hput:(ZIp c.d.quotes (Z2 c who a m)).2=0:=Classical.not_not.1 hput
   have hqi:I64 (c.d.quote+1):=Zr (by omega) (by omega)
   have hpr:1≤m.F_1∧m.F_1≤1000000:=by
    have hb:=h.w.bonds _ (ZAv (ZFa h.w hm1).1 h.w.bl).1
    have hp:ZDk (ZAO c.d a.Bond) m.F_1=0:=Classical.not_not.1 hp
    unfold ZDk at hp
    split at hp
    ·omega
    ·cases hp
   have hput2:(ZIp c.d.quotes (Z2 c who a m)).1=c.d.quotes.map (ZGi (Z2 c who a m))++[Z2 c who a m]:=by
    unfold ZIp at hput ⊢
    split
    ·rename_i e; rw [if_pos e] at hput; cases hput
    ·rfl
   have hold:∀ x:Za,(ZGi (Z2 c who a m) x).ID=x.ID∧(ZGi (Z2 c who a m) x).Price=x.Price∧(ZGi (Z2 c who a m) x).Dealer=x.Dealer∧(ZGi (Z2 c who a m) x).Expires=x.Expires:=fun x=>by
    unfold ZGi
    split<;>exact ⟨rfl,rfl,rfl,rfl⟩
   have hl1:=h.w.l1
   have hl3:=h.w.l3
   have h1:COk (N+1) (ZP2 c (Z2 c who a m)):=by
    refine ⟨{h'.w with
     qs:=?_,qi:=?_,c3:=?_,l1:=?_,l3:=?_},{h.f with qo:=?_},h.o,hqi⟩
    ·show Srt Za.ID (ZIp c.d.quotes (Z2 c who a m)).1
     rw [hput2]
     unfold Srt
     rw [List.pairwise_append]
     refine ⟨?_,List.pairwise_singleton _ _,fun x hx y hy=>?_⟩
     ·rw [List.pairwise_map]
      exact List.Pairwise.imp (fun {x y} hxy=>by rw [(hold x).1,(hold y).1]; exact hxy) h.w.qs
     ·obtain ⟨z,hz,rfl⟩:=List.mem_map.1 hx
      simp only [List.mem_singleton] at hy
      subst hy
      rw [(hold z).1]
      have:=(h.w.qi z hz).1
      show z.ID<c.d.quote+1
      omega
    ·intro q hq
     have hq:q∈(ZIp c.d.quotes (Z2 c who a m)).1:=hq
     rw [hput2] at hq
     show q.ID≤c.d.quote+1∧_
     rcases List.mem_append.1 hq with hq|hq
     ·obtain ⟨z,hz,rfl⟩:=List.mem_map.1 hq
      rw [(hold z).1,(hold z).2.1,(hold z).2.2.1]
      have:=h.w.qi z hz
      omega
     ·simp only [List.mem_singleton] at hq
      subst hq
      exact ⟨Int.le_refl _,hpr.1,hpr.2,hw⟩
    ·show 0≤c.d.quote+1∧c.d.quote+1≤((N+1:Nat):Int)
     omega
    ·show (ZIp c.d.quotes (Z2 c who a m)).1.length≤N+1
     rw [hput2,List.length_append,List.length_map,List.length_singleton]
     omega
    ·show c.d.due+1≤2*(N+1)
     omega
    ·intro q hq
     have hq:q∈(ZIp c.d.quotes (Z2 c who a m)).1:=hq
     rw [hput2] at hq
     rcases List.mem_append.1 hq with hq|hq
     ·obtain ⟨z,hz,rfl⟩:=List.mem_map.1 hq
      rw [(hold z).1,(hold z).2.2.2]
      exact h.f.qo z hz
     ·simp only [List.mem_singleton] at hq
      subst hq
      exact ⟨hqi,ZDS _⟩
   refine h1.tell ⟨by decide,by decide⟩ fun n hn=>?_
   simp only [List.mem_cons,List.not_mem_nil,or_false] at hn
   rcases hn with rfl|rfl|rfl|rfl
   ·exact hai.1
   ·exact hqi
   ·exact hm.2.2.1
   ·exact ZDS _
theorem ZRg {N:Nat} (a:Ask) (ha:∀ n∈[a.ID,a.Bond,a.Side,a.Qty,a.Ends],I64 n):∀ (is:List Nat) (c:DC),COk N c→COk N (is.foldl (ZBp a) c)
 | [],c,h=>h
 | i::is,c,h=>by
   rw [List.foldl_cons]
   refine ZRg a ha is _ ?_
   unfold ZBp
   split
   ·exact h.tell ⟨by decide,by decide⟩ ha
   ·exact h
theorem ZR8 {N:Nat} {c:DC} (h:COk N c) (hN:N≤9000) {who:Int} {m:Msg} (hw:0≤who∧who<8) (hm:ZDp m):COk (N+1) (ZBz c who m).1:=by
 have h':=h.mono (Nat.le_succ N)
 have hc4:=h.w.c4
 unfold ZBz
 split
 ·exact h'
 rename_i hb
 have hb:isBond c.d m.F_0=true:=by simpa using hb
 split
 ·exact h'
 split
 ·exact h'
 split
 ·exact h'
 rename_i hqv
 split
 ·exact h'
 split
 ·exact h'
 split
 ·exact h'
 rename_i hadd
 have hadd:(ZIj c.d.asks (Z6 c who m)).2=0:=Classical.not_not.1 hadd
 have hadd2:(ZIj c.d.asks (Z6 c who m)).1=c.d.asks++[Z6 c who m]:=by
  unfold ZIj at hadd ⊢
  split
  ·rename_i e; rw [if_pos e] at hadd; cases hadd
  ·rename_i e
   rw [if_neg e] at hadd
   split
   ·rename_i e2; rw [if_pos e2] at hadd; cases hadd
   ·rfl
 have hqt:1≤m.F_2∧m.F_2≤1000000:=by
  have hbb:=h.w.bonds _ (ZAv hb h.w.bl).1
  have hqv:ZSw (ZAO c.d m.F_0) m.F_2=0:=Classical.not_not.1 hqv
  unfold ZSw at hqv
  split at hqv
  ·omega
  ·cases hqv
 have hai:I64 (c.d.ask+1):=Zr (by omega) (by omega)
 have hbn:=ZBC.1 hb
 have hl2:=h.w.l2
 have hl3:=h.w.l3
 have h1:COk (N+1) (ZPg c (Z6 c who m)):=by
  refine ⟨{h'.w with
   sa:=?_,ai:=?_,c4:=?_,l2:=?_,l3:=?_},{h.f with ao:=?_},h.o,hai⟩
  ·show Srt Ask.ID (ZIj c.d.asks (Z6 c who m)).1
   rw [hadd2]
   unfold Srt
   rw [List.pairwise_append]
   refine ⟨h.w.sa,List.pairwise_singleton _ _,fun x hx y hy=>?_⟩
   simp only [List.mem_singleton] at hy
   subst hy
   have:=(h.w.ai x hx).1
   show x.ID<c.d.ask+1
   omega
  ·intro q hq
   have hq:q∈(ZIj c.d.asks (Z6 c who m)).1:=hq
   rw [hadd2] at hq
   show q.ID≤c.d.ask+1∧_
   rcases List.mem_append.1 hq with hq|hq
   ·have:=h.w.ai q hq
    exact ⟨by omega,this.2⟩
   ·simp only [List.mem_singleton] at hq
    subst hq
    exact ⟨Int.le_refl _,(by show 1≤c.d.ask+1; omega),hbn.1,hbn.2,hqt.1,hqt.2,hw⟩
  ·show 0≤c.d.ask+1∧c.d.ask+1≤((N+1:Nat):Int)
   omega
  ·show (ZIj c.d.asks (Z6 c who m)).1.length≤N+1
   rw [hadd2,List.length_append,List.length_singleton]
   omega
  ·show c.d.due+1≤2*(N+1)
   omega
  ·intro q hq
   have hq:q∈(ZIj c.d.asks (Z6 c who m)).1:=hq
   rw [hadd2] at hq
   rcases List.mem_append.1 hq with hq|hq
   ·exact h.f.ao q hq
   ·simp only [List.mem_singleton] at hq
    subst hq
    exact ⟨hm.2.2.1,ZDS _,ZF9⟩
 refine ZRg _ (fun n hn=>?_) _ _ h1
 simp only [List.mem_cons,List.not_mem_nil,or_false] at hn
 rcases hn with rfl|rfl|rfl|rfl|rfl
 ·exact hai
 ·exact hm.2.1
 ·exact hm.2.2.1
 ·exact hm.2.2.2.1
 ·exact ZDS _
theorem ZWM {N:Nat} {c:DC} (h:COk N c) (hN:N≤9000) {who:Int} {m:Msg}:COk (N+1) (ZEc c who m).1:=by
 have h':=h.mono (Nat.le_succ N)
 unfold ZEc
 cases hg:getA c.d.asks m.F_0 with
 | none=>exact h'
 | some a=>
   dsimp only
   have hm1:=(ZDK hg).1
   have hai:=ZIZ h.w hN hm1
   have haf:=h.f.ao a hm1
   split
   ·exact h'
   split
   ·exact h'
   split
   ·exact (ZIX (h.id hai.1) a hai.1 haf.2.2).mono (Nat.le_succ N)
   split
   ·exact h'.id hai.1
   split
   ·exact h'.id hai.1
   ·have hh:=ZNk h.w a
    have hp:(ZCm c.d a).Price≤1000000∧0≤(ZCm c.d a).Price∧0≤(ZCm c.d a).Dealer∧(ZCm c.d a).Dealer<8:=by
     rcases hh with e|e
     ·rw [e]; exact ⟨by decide,by decide,by decide,by decide⟩
     ·have:=h.w.qi _ e; omega
    generalize ZCm c.d a=q at*
    have h1:COk N (ZUk {c with d:={c.d with used:=(ZK2 c.d.parties c.d.used q.Dealer q.Price a.Qty).1},id:=a.ID} a.ID 3):=
     ⟨((h.w.used (ZK2 c.d.parties c.d.used q.Dealer q.Price a.Qty).1).end a.ID 3).clear a.ID,{h.f with qo:=ZQX h.f.qo,ao:=ZVD h.f.ao},h.o,hai.1⟩
    have h2:=h1.tell (to:=a.Client) (kind:=26) (ns:=[a.ID,q.Price]) ⟨by decide,by decide⟩ (ZY8 hai.1 (Zr hp.2.1 hp.1))
    have hl4:=h.w.l4
    have ht:ZCc (ZLJ c.d.trades (ZBI c.d a.Side a.Client q.Dealer ⟨0,a.Bond,0,0,q.Price,a.Qty,a.ID,0⟩)):=by
     unfold ZLJ ZBI ZCc
     dsimp only
     refine ⟨Zr (by omega) (by omega),hai.2.1,?_,?_,Zr hp.2.1 hp.1,hai.2.2.1,hai.1,h.w.now⟩
     ·split
      ·exact Zr (by omega) (by omega)
      ·exact hai.2.2.2
     ·split
      ·exact hai.2.2.2
      ·exact Zr (by omega) (by omega)
    refine ⟨h2.w.trade1 _,{h2.f with},fun o ho=>?_,h2.i⟩
    rcases List.mem_append.1 ho with ho|ho
    ·exact h2.o o ho
    ·exact ZN5 ht o ho
theorem ZXr {N:Nat} {c:DC} (h:COk N c) (hN:N≤9000) {who:Int} {m:Msg} (hm:ZDp m):COk (N+1) (ZCJ c who m).1:=by
 have h':=h.mono (Nat.le_succ N)
 unfold ZCJ
 split
 ·exact h'
 rename_i e
 have hw:=ZLp h.w (by simpa using e)
 split
 ·exact ZU3 h hN hw hm
 split
 ·exact ZUD h hN hw hm
 split
 ·exact ZXb h hN
 split
 ·exact ZWM h hN
 split
 ·exact (ZYY h hN hm.2.1).mono (Nat.le_succ N)
 split
 ·exact ZR8 h hN hw hm
 ·exact (ZYH h hm.2.1).mono (Nat.le_succ N)
theorem ZQI {c:DC} {who n how:Int} {o:ZE} (h1:(ZJK c n o how).2.1.length≤64) (h2:(ZJK c n o how).2.2.1.length≤64):(ZAX c who n o how).1.outs.length≤c.outs.length+321:=by
 unfold ZAX
 unfold ZJK at h1 h2
 generalize doV (Zq c.d n) (ZGP c o) how=r at h1 h2
 by_cases he:r.2.2.2.2≠0
 ·rw [if_pos he]; show c.outs.length≤_; omega
 ·rw [if_neg he]
  have hg:=(ZFQ who r.2.2.1 (ZJ4 c n r.1)).1
  have hf:=(ZFS (who:=who) n o r.2.1 (r.2.2.1.foldl (ZC3 who) (ZJ4 c n r.1),o.Left)).1
  have e0:(ZJ4 c n r.1).outs=c.outs:=rfl
  rw [e0] at hg
  dsimp only at hf
  generalize r.2.1.foldl (ZCK who n o) (r.2.2.1.foldl (ZC3 who) (ZJ4 c n r.1),o.Left)=st at*
  dsimp only
  split
  ·show (st.1.outs++[_]).length≤_
   rw [List.length_append,List.length_singleton]; omega
  ·omega
theorem ZIK {N:Nat} {c:DC} (i:WOk N c.d) {who n how:Int} {o:ZE} (hn:0≤n∧n<c.d.books.length) (ho:0≤o.Owner∧o.Owner<8):(ZAX c who n o how).1.outs.length≤c.outs.length+321:=by
 have hdo:=ZNb (o:=ZGP c o) (how:=how) (ZB0 i hn) rfl ho
 exact ZQI hdo.2.2.1 hdo.2.2.2.1
theorem ZYV {N:Nat} {S:DS} (w:WOk N S) (f:FOk S):COk N (ZHA S):=⟨w,f,(fun o ho=>by cases ho),ZF9⟩
theorem ZO0 {N:Nat} {c:DC} (h:WOk N c.d) {who:Int} {m:Msg} (hw:0≤who∧who<8):(ZB9 c who m).1.outs.length≤c.outs.length+321:=by
 unfold ZB9
 split
 ·unfold ZD8
  split
  ·show c.outs.length≤_; omega
  rename_i hb
  have hb:isBond c.d m.F_0=true:=by simpa using hb
  split
  ·show c.outs.length≤_; omega
  split
  ·show c.outs.length≤_; omega
  have:=ZIK h (who:=who) (n:=m.F_0) (how:=m.F_4) (o:=ZBQ c who m) (ZBC.1 hb) hw
  split
  ·exact this
  ·exact this
 cases hf:ZBR c.d m.F_0 with
 | none=>show c.outs.length≤_; omega
 | some n=>
   dsimp only
   obtain ⟨hn,x,hx,hxm,hxi,hR⟩:=ZDL hf
   have hnn:0≤((n:Nat):Int)∧((n:Nat):Int)<c.d.books.length:=⟨Int.natCast_nonneg _,by omega⟩
   have hbk:=ZB0 h hnn
   have hxb:x∈Zq c.d ((n:Nat):Int):=by rw [ZAw hnn]; exact hxm
   have hxo:=hbk.2.2.2 x hxb
   rw [hR]
   dsimp only
   split
   ·show c.outs.length≤_; omega
   split
   ·unfold ZC0
    dsimp only
    split
    ·show c.outs.length≤_; omega
    split
    ·show c.outs.length≤_; omega
    ·exact ZIK (c:={c with id:=m.F_0,d:=ZBV c.d (n:Int) (ZBu (Zq c.d (n:Int)) x.ID)}) (h.book (hbk.sub (ZAj _ _))) (o:=ZF2 x m.F_1 m.F_2) (by show 0≤_∧_<((List.set _ _ _).length:Int); rw [List.length_set]; exact hnn) hxo.2
   ·show (c.outs++[_]).length≤_
    rw [List.length_append,List.length_singleton]; omega
theorem ZIr {N:Nat} {c:DC} (h:WOk N c.d) {who:Int} {m:Msg}:(ZCJ c who m).1.outs.length≤c.outs.length+321:=by
 have z:c.outs.length≤c.outs.length+321:=Nat.le_add_right _ _
 have t1:∀ (x:Out),(c.outs++[x]).length≤c.outs.length+321:=fun x=>by rw [List.length_append,List.length_singleton]; omega
 unfold ZCJ
 split
 ·exact z
 rename_i e
 have hw:=ZLp h (by simpa using e)
 split
 ·exact ZO0 h hw
 split
 ·unfold ZCv
  split
  ·unfold ZJX
   split
   ·exact z
   ·split
    ·exact z
    ·split<;>exact z
  ·split
   ·exact z
   ·split
    ·exact z
    split
    ·exact z
    split
    ·exact z
    split
    ·exact z
    split
    ·exact z
    split
    ·exact z
    ·exact t1 _
 split
 ·unfold ZH7 ZPf
  (repeat' split)<;>first|exact z|exact t1 _
 split
 ·unfold ZEc ZAT
  split
  ·exact z
  ·dsimp only
   split
   ·exact z
   split
   ·exact z
   split
   ·split
    ·exact t1 _
    ·exact t1 _
   split
   ·exact z
   split
   ·exact z
   ·show ((c.outs++[_])++ZH5 _).length≤_
    simp [ZH5]
 split
 ·unfold ZHx
  split
  ·exact t1 _
  ·exact z
 split
 ·unfold ZBz
  split
  ·exact z
  split
  ·exact z
  split
  ·exact z
  split
  ·exact z
  split
  ·exact z
  split
  ·exact z
  split
  ·exact z
  ·have:=(ZGo (Z6 c who m) (List.range c.d.parties.length) (ZPg c (Z6 c who m))).2.2
   rw [List.length_range] at this
   have e0:(ZPg c (Z6 c who m)).outs=c.outs:=rfl
   rw [e0] at this
   have:=h.pl
   dsimp only
   omega
 ·unfold ZHG
  (repeat' split)<;>exact z
def Err (e:Int):Prop:=0≤e∧e≤20
theorem ZQ8 (b:Bond) (p:Int):Err (ZDk b p):=by unfold ZDk Err; split<;>(try split)<;>omega
theorem ZWa (b:Bond) (p:Int):Err (ZSw b p):=by unfold ZSw Err; split<;>(try split)<;>omega
theorem ZSg (b:Bond) (p q:Int):Err (ZGy b p q):=by
 unfold ZGy
 split
 ·unfold Err; omega
 split
 ·exact ZQ8 b p
 ·exact ZWa b q
theorem ZXu (b:Bond) (h p q:Int):Err (ZOY b h p q):=by
 unfold ZOY
 split
 ·exact ZSg b p q
 split
 ·unfold Err; omega
 split
 ·unfold Err; omega
 ·exact ZWa b q
theorem ZWR (l:List ZE) (o:ZE) (how:Int):Err (ZCr l o how):=by
 unfold ZCr Err
 (repeat' split)<;>omega
theorem ZZY (l:List ZE) (o:ZE) (how:Int):Err (doV l o how).2.2.2.2:=by
 unfold doV
 split
 ·exact ZWR l o how
 ·exact ⟨Int.le_refl 0,by show (0:Int)≤20; omega⟩
theorem ZXx (l:List ZE) (id left:Int):Err (ZDl l id left).2:=by
 unfold ZDl
 (repeat' split)<;>(unfold Err; omega)
theorem ZX9 (l:List ZE) (s p q:Int):Err (ZSE l s p q):=by
 unfold ZSE Err
 (repeat' split)<;>omega
theorem ZXi (xs:List Ask) (a:Ask):Err (ZIj xs a).2:=by unfold ZIj; (repeat' split)<;>(unfold Err; omega)
theorem ZYv (xs:List Za) (q:Za):Err (ZIp xs q).2:=by unfold ZIp; (repeat' split)<;>(unfold Err; omega)
theorem ZVi (xs:List Za) (i d:Int):Err (ZH8 xs i d).2:=by unfold ZH8; (repeat' split)<;>(unfold Err; omega)
theorem ZWt (xs:List Ask) (i q u:Int):Err (ZDc xs i q u).2:=by unfold ZDc; (repeat' split)<;>(unfold Err; omega)
theorem ZVc (ps:List Z3) (w d:Int):Err (ZIL ps w d):=by unfold ZIL; (repeat' split)<;>(unfold Err; omega)
theorem ZVI (ps:List Z3) (us:List Int) (w p q:Int):Err (ZEW ps us w p q).2:=by unfold ZEW; (repeat' split)<;>(unfold Err; omega)
theorem ZZe (ps:List Z3) (us:List Int) (w p q:Int):Err (ZK2 ps us w p q).2:=by
 unfold ZK2
 split
 ·unfold Err; omega
 ·exact ZVI ps us w p q
theorem ZVH (S:DS) (w i:Int):Err (ZBm S w i).2:=by unfold ZBm; (repeat' split)<;>(unfold Err; omega)
theorem ZJp (S:DS) (a:Ask) (q:Za):Err (ZCp S a q):=by
 unfold ZCp
 split
 ·unfold Err; omega
 ·exact ZX9 _ _ _ _
theorem ZZb (c:DC) (a:Ask) (q:Za):Err (ZPf c a q).2:=by
 unfold ZPf
 (repeat' split)<;>first|exact ZJp _ _ _|exact ZVI _ _ _ _ _|exact ZWt _ _ _ _|(unfold Err; dsimp only; omega)
theorem ZY1 (c:DC) (who:Int) (m:Msg):Err (ZCJ c who m).2:=by
 have hm:∀ c who n o how,Err (ZAX c who n o how).2:=fun c who n o how=>by rw [(ZED c who n o how).2.2]; exact ZZY _ _ _
 unfold ZCJ
 split
 ·(unfold Err; dsimp only; omega)
 split
 ·unfold ZB9 ZD8 ZC0
  (repeat' split)<;>first|exact hm _ _ _ _ _|exact ZXu _ _ _ _|exact ZSg _ _ _|exact ZXx _ _ _|(unfold Err; dsimp only; omega)
 split
 ·unfold ZCv ZJX
  (repeat' split)<;>first|exact ZQ8 _ _|exact ZYv _ _|exact ZVi _ _ _|(unfold Err; dsimp only; omega)
 split
 ·unfold ZH7
  (repeat' split)<;>first|exact ZZb _ _ _|exact ZVH _ _ _|(unfold Err; dsimp only; omega)
 split
 ·unfold ZEc
  (repeat' split)<;>first|exact ZJp _ _ _|exact ZZe _ _ _ _ _|(unfold Err; dsimp only; omega)
 split
 ·unfold ZHx
  split
  ·(unfold Err; dsimp only; omega)
  ·exact ZVH _ _ _
 split
 ·unfold ZBz
  (repeat' split)<;>first|exact ZWa _ _|exact ZVc _ _ _|exact ZXi _ _|(unfold Err; dsimp only; omega)
 ·unfold ZHG
  (repeat' split)<;>(unfold Err; dsimp only; omega)
theorem ZXs {N:Nat} {S:DS} (w:WOk N S) (f:FOk S) (hN:N≤9000) {who seq:Int} {m:Msg} (hm:ZDp m) (hs:I64 seq):WOk (N+1) (doD S who seq m).1∧FOk (doD S who seq m).1∧(∀ o∈(doD S who seq m).2,ZBv o)∧(doD S who seq m).2.length≤400:=by
 have hc:=ZXr (ZYV w f) hN (who:=who) hm
 have hl:=ZIr (c:=ZHA S) w (who:=who) (m:=m)
 have he:I64 (ZCJ (ZHA S) who m).2:=by have:=ZY1 (ZHA S) who m; exact ⟨by unfold Err at this; omega,by unfold Err at this; omega⟩
 unfold doD
 generalize ZCJ (ZHA S) who m=r at*
 have h0:(ZHA S).outs.length=0:=rfl
 rw [h0] at hl
 split
 ·exact ⟨hc.w,hc.f,(fun o ho=>by simp only [List.mem_singleton] at ho; subst ho; exact ZD6 ⟨by decide,by decide⟩ (ZY8 hs he)),by simp⟩
 ·refine ⟨hc.w,hc.f,fun o ho=>?_,by simp only [List.length_cons]; omega⟩
  rcases List.mem_cons.1 ho with rfl|ho
  ·exact ZD6 ⟨by decide,by decide⟩ (ZY8 hs hc.i)
  ·exact hc.o o ho
def ZBN (x:LS) (bs:List Int):LS×List ZP×Bool:=
 (⟨(Zw (x.held++bs)).2.1,x.lost+(Zw (x.held++bs)).2.2,((Zw (x.held++bs)).1.foldl ZAk (x.s,x.out,[],false)).1,((Zw (x.held++bs)).1.foldl ZAk (x.s,x.out,[],false)).2.1⟩,
   ((Zw (x.held++bs)).1.foldl ZAk (x.s,x.out,[],false)).2.2.1,((Zw (x.held++bs)).1.foldl ZAk (x.s,x.out,[],false)).2.2.2)
inductive ZGV (who:Int):VS→List ZP→VS→Prop
 | nil {S:VS}:ZGV who S [] S
 | cons {S T U:VS} {f:ZP} {fs:List ZP}:ZMm ⟨(doD S.d who f.Seq (ZDH f)).1,S.ls⟩ (doD S.d who f.Seq (ZDH f)).2 T→ZGV who T fs U→ZGV who S (f::fs) U
def ZY6 (f:ZP):Prop:=I64 f.Seq∧ZDp (ZDH f)
theorem ZZC {f:ZP} (h:wfF f):ZY6 f:=by
 unfold wfF at h
 unfold ZY6 ZDp
 simp only [ZDH,fs,List.mem_cons,List.not_mem_nil,or_false,forall_eq_or_imp,forall_eq] at h ⊢
 exact ⟨h.1,h.2⟩
structure HOk (A B:Nat) (k:Nat) (s0:SS) (st:SS×List (List Int)×List ZP×Bool):Prop where
 all:st.1.all=s0.all
 want:st.1.want≤s0.want+k
 beat:st.1.beat=s0.beat
 sent:st.1.sent≤s0.sent
 heard:st.1.heard≤s0.heard
 out:st.2.1.length≤256
 outs:ZDT st.2.1
 n:st.2.2.1.length≤k
 f:∀ f∈st.2.2.1,ZY6 f
theorem ZUP (s:SS) (x:ZP) (h:(Zk s x).2.2.2.1=true):(Zk s x).2.2.1=ZDH x:=by
 unfold Zk at h ⊢
 split
 ·rename_i h1
  rw [if_pos h1] at h
  unfold ZNq at h
  split at h<;>cases h
 ·rename_i h1
  rw [if_neg h1] at h
  split
  ·rename_i h2; rw [if_pos h2] at h; cases h
  ·rename_i h2
   rw [if_neg h2] at h
   split
   ·rename_i h3
    rw [if_pos h3] at h
    unfold ZVn at h
    (repeat' split at h)<;>cases h
   ·rename_i h3
    rw [if_neg h3] at h
    unfold ZFh at h ⊢
    (repeat' split at h)<;>first|(cases h; done)|skip
    all_goals simp_all
theorem ZX2 {A B k:Nat} {s0:SS} {st:SS×List (List Int)×List ZP×Bool} {b:List Int} (h:HOk A B k s0 st) (hb:Zv b) (hwf:∀ f∈s0.all,wfF f) (hk:s0.want+k≤1000000):HOk A B (k+1) s0 (ZAk st b):=by
 have h1:=ZRH st b
 unfold ZAk at h1 ⊢
 cases hr:ZDq b with
 | none=>exact {h with want:=by have:=h.want; dsimp only; omega,n:=by have:=h.n; dsimp only; omega}
 | some x=>
   rw [hr] at h1
   dsimp only at h1 ⊢
   have hx:=ZNs hb hr
   have t:=ZMH st.1 x
   have g:=ZCh (Zk st.1 x).2.1 ((Zk st.1 x).1,st.2.1,false)
   dsimp only at g
   have hw:=h.want
   have hs:=h.sent
   have hh:=h.heard
   have hn:=h.n
   refine ⟨by dsimp only; rw [h1.1,h.all],by dsimp only; omega,by dsimp only; rw [g.1,t.1,h.beat],by dsimp only; rw [g.2.2.2.1]; omega,by dsimp only; rw [g.2.2.2.2.1]; omega,g.2.2.2.2.2.2 h.out,ZFO _ _ (ZRi (by rw [h.all]; exact hwf) (by omega)) h.outs,by dsimp only; omega,?_⟩
   dsimp only
   split
   ·rename_i e
    intro f hf
    rcases List.mem_append.1 hf with hf|hf
    ·exact h.f f hf
    ·simp only [List.mem_singleton] at hf
     subst hf
     rw [ZUP st.1 x e]
     have:=ZZC hx
     exact ⟨this.1,this.2⟩
   ·exact h.f
theorem ZLm {A B:Nat} {s0:SS}:∀ (bs:List (List Int)) {k:Nat} {st:SS×List (List Int)×List ZP×Bool},HOk A B k s0 st→(∀ b∈bs,Zv b)→(∀ f∈s0.all,wfF f)→s0.want+k+bs.length≤1000000→HOk A B (k+bs.length) s0 (bs.foldl ZAk st)
 | [],k,st,h,_,_,_=>h
 | b::bs,k,st,h,hb,hwf,hk=>by
   rw [List.length_cons] at hk
   rw [List.foldl_cons,List.length_cons]
   have:=ZLm bs (ZX2 h (hb b (by simp)) hwf (by omega)) (fun x hx=>hb x (by simp [hx])) hwf (by omega)
   rwa [show k+(bs.length+1)=k+1+bs.length by omega]
theorem ZRE {A B:Nat} {x:LS} {bs:List Int} (h:LOk A B x) (hb:Zv bs) (hB:B+bs.length≤900000):LOk A (B+bs.length) (ZBN x bs).1∧(∀ f∈(ZBN x bs).2.1,ZY6 f)∧(ZBN x bs).2.1.length≤B+1+bs.length:=by
 have hall:Zv (x.held++bs):=fun b hb'=>(List.mem_append.1 hb').elim (h.held b) (hb b)
 have hfl:=ZJg hall
 have hfb:=ZF0 hall
 rw [List.length_append] at hfl
 have hhl:=h.hl
 have hk:=ZLm (A:=A) (B:=B) (s0:=x.s) (Zw (x.held++bs)).1 (k:=0) (st:=(x.s,x.out,[],false)) ⟨rfl,Nat.le_refl _,rfl,Nat.le_refl _,Nat.le_refl _,h.out,h.outs,Nat.le_refl _,fun f hf=>by cases hf⟩ hfb.1 h.wf (by omega)
 rw [Nat.zero_add] at hk
 have hhl:=h.hl
 have hw:=hk.want
 have hn:=hk.n
 have hs:=hk.sent
 have hh:=hk.heard
 have h1:=h.sent
 have h2:=h.heard
 unfold ZBN
 dsimp only
 refine ⟨⟨hfb.2,by dsimp only; omega,by dsimp only; rw [hk.all]; exact h.wf,by dsimp only; rw [hk.all]; exact h.al,by dsimp only; rw [hk.beat]; exact h.beat,by dsimp only; omega,by dsimp only; omega,hk.out,hk.outs⟩,hk.f,by omega⟩
theorem ZV1 {N:Nat} {S:DS} (i:WOk N S) (f:FOk S) (hN:N≤9000) (id:Int):I64 (ZLA ZO8 (getA S.asks id)).1.ID∧I64 (ZLA ZO8 (getA S.asks id)).1.Hit:=by
 cases h:getA S.asks id with
 | none=>exact ⟨ZF9,ZF9⟩
 | some a=>
   have hm:=(ZDK h).1
   exact ⟨(ZIZ i hN hm).1,(f.ao a hm).2.2⟩
section
variable {k:DK} {S:DS} {b:Nat} {who:Int} {c:DC} {h:Hp} {l:List Hp} {N:Nat}
theorem ZFw (a:Zt k S h l) (i:WOk N S) (f:FOk S) (hN:N≤9000) {Q:Sl→Hp→Prop}
 (hq:∀ T s outs d h',Zt k T h' (d::l)→Own ZCL d s outs→ZDX {S with now:=IntKind.i64.wrap (S.now+1)} T→WOk N T→FOk T→ZDm outs→(∀ o∈outs,ZBv o)→outs.length≤20000→Q s h'):
 ZA TP 50 [Value.pointer k.p] cSl h Q:=by
 refine c50 ?_
 unfold F50
 refine ZQ rfl ?_
 refine a.new fun k1 h1 a1=>?_
 obtain ⟨D,o1,w1⟩:=a1
 obtain ⟨o2,o3⟩:=On.joined (cs:=[Go.Eng.ob k1 [Value.int .i64 0,Value.int .i64 0,Value.slice none 0 0] 191,Hp.emp]) (l:=D::l) ((o1.emp).pick [2,0,1] 3 (by decide) (by decide))
 have a2:Has k k1 0 (ZHA S) h1 l:=⟨_,⟨⟨none,0,0⟩,Hp.emp,o3,Own.nil _⟩,D,o2.swap,w1⟩
 dsimp only [ZR,DK.p]
 refine ZF (cd:=cI .i64) (x:=S.now) a2.ob (i:=4) rfl ?_
 obtain ⟨C,wc,a2⟩:=a2
 refine a2.setNow fun h3 a3=>?_
 have i3:WOk N {S with now:=IntKind.i64.wrap (S.now+1)}:={i with now:=ZDS _}
 have f3:FOk {S with now:=IntKind.i64.wrap (S.now+1)}:={f with bo:=f.bo}
 have a3:Zt k {S with now:=IntKind.i64.wrap (S.now+1)} h3 (C::l):=a3
 generalize hS3:({S with now:=IntKind.i64.wrap (S.now+1)}:DS)=S3 at*
 have hnow:S3.now=IntKind.i64.wrap (S.now+1):=by rw [←hS3]
 refine ZF (cd:=cP) (x:=k.pd) a3.ob (i:=9) rfl ?_
 refine ZF (cd:=cI .i64) (x:=S3.now) a3.ob (i:=4) rfl ?_
 obtain ⟨cd,R,o4,w4,cl⟩:=a3.dues
 have hd:=i3.due (by omega)
 have hd3:=i3.l3
 refine ZTs o4 w4 hd fun s5 xs c5 d5 h5 o5 w5 wd5 hxl=>?_
 have a5:=cl h5 c5 _ S3.due (o5.pick [0,2,1] 3 (by decide) (by decide)) w5
 have a5:Zt k S3 h5 (d5::C::l):=a5
 have a5:Has k k1 0 ⟨S3,0,[]⟩ h5 (d5::l):=⟨C,wc,a5.perm (List.Perm.swap _ _ _)⟩
 have hlen:=wd5.1
 refine Zb (fun z h'=>∃ (j:Nat) (c:DC),z=(j:Int)∧j≤xs.length∧Has k k1 0 c h' (d5::l)∧ZDX S3 c.d∧WOk N c.d∧COk N c∧ZDm c.outs∧c.outs.length≤j) (fun z=>xs.length-z.toNat)
  ⟨0,⟨S3,0,[]⟩,rfl,Nat.zero_le _,a5,ZDX.refl _,i3,⟨i3,f3,(fun o ho=>by cases ho),ZF9⟩,(fun o ho=>by cases ho),Nat.le_refl _⟩ ?_
 rintro J z h6 again ⟨j,c,rfl,hj,a6,g6,i6,k6,q6,l6⟩
 refine ZH (fun hlt=>?_) fun hge=>?_
 ·have hj':j<xs.length:=by omega
  have a0:xs[j]?=some xs[j]:=List.getElem?_eq_getElem hj'
  refine ZM wd5.row (Int.natCast_nonneg j) (by omega) fun p hp=>ZO wd5.row (a6.sub (by simp)) rfl hp (i:=j) a0 (by rfl) ?_
  refine ZF (cd:=cP) (x:=k.pa) a6.ob (i:=8) rfl ?_
  obtain ⟨C6,wc6,a6⟩:=a6
  refine a6.getA i6 (by omega) fun h7 a7=>?_
  have a7:Has k k1 0 c h7 (d5::l):=⟨C6,wc6,a7⟩
  have z6:=ZV1 i6 k6.f hN xs[j].ID
  generalize ZLA ZO8 (getA c.d.asks xs[j].ID)=z1 at*
  rw [ZAH (by omega)]
  refine ZN (fun _ h'=>∃ c:DC,Has k k1 0 c h' (d5::l)∧ZDX S3 c.d∧WOk N c.d∧COk N c∧ZDm c.outs∧c.outs.length≤j+1) ?_ fun J2 hJ2=>?_
  ·rintro _ h' ⟨c',a',g',i',k',q',l'⟩
   exact again _ _ ⟨j+1,c',rfl,by omega,a',g',i',k',q',l'⟩ (by omega)
  ·refine ZD (fun _=>?_) fun _=>?_
   ·refine ZF (cd:=cP) (x:=k.pq) a7.ob (i:=7) rfl ?_
    obtain ⟨C7,wc7,a7⟩:=a7
    refine a7.killQ i6 (by omega) fun t h8 a8=>?_
    exact hJ2 _ _ ⟨{c with d:={c.d with quotes:=killQ c.d.quotes xs[j].ID}},⟨C7,wc7,a8⟩,g6.trans (ZDX.quotes _ _),i6.kill _,⟨i6.kill _,{k6.f with qo:=ZJJ k6.f.qo},k6.o,k6.i⟩,q6,by dsimp only; omega⟩
   ·refine ZN (fun t h'=>Has k k1 0 c h' (d5::l)) ?_ fun J4 hJ4=>ZD (fun _=>hJ4 _ _ a7) fun _=>hJ4 _ _ a7
    rintro t h8 a8
    refine ZD (fun _=>?_) fun _=>?_
    ·have g:=ZI7 (c:=c) z1.1 i6
     exact ZG7 (x:=z1.1) a8 i6 (by omega) (by omega) fun h9 a9=>hJ2 _ _ ⟨_,a9,g6.trans g.1,g.2.1,ZIX k6 z1.1 z6.1 z6.2,g.2.2.1 q6,by rw [g.2.2.2]; omega⟩
    ·refine ZN (fun t h'=>Has k k1 0 c h' (d5::l)) ?_ fun J3 hJ3=>ZD (fun _=>hJ3 _ _ a8) fun _=>hJ3 _ _ a8
     rintro t h9 a9
     refine ZD (fun _=>?_) fun _=>hJ2 _ _ ⟨c,a9,g6,i6,k6,q6,by omega⟩
     have g:=ZK5 (c:=c) z1.1 i6
     exact ZLP (x:=z1.1) a9 i6 (by omega) (by omega) fun h10 a10=>hJ2 _ _ ⟨_,a10,g6.trans g.1,g.2.1,ZQH k6 z1.1 z6.1,g.2.2.1 q6,by rw [g.2.2.2]; omega⟩
 ·obtain ⟨C6,⟨s,d,oc,wd⟩,a6⟩:=a6
  have hC:=a6.sub (g:=C6) (by simp)
  have hob:(Go.Eng.ob k1 [Value.int .i64 0,Value.int .i64 c.id,sv s] 191).sub h6:=Hp.sub_trans (oc.mem (by simp)) hC
  refine ZF (cd:=cSl) (x:=s) hob (i:=2) rfl ?_
  obtain ⟨D6,o7,w7⟩:=a6
  have o8:On h6 (C6::D6::l):=o7.pick [1,0] 3 (by decide) (by decide)
  have o9:On h6 (Go.Eng.ob k1 [Value.int .i64 0,Value.int .i64 c.id,sv s] 191::d::D6::l):=o8.split oc
  exact hq c.d s c.outs d h6 ⟨D6,o9.pick [2,1] 3 (by decide) (by decide),w7⟩ wd g6 i6 k6.f q6 k6.o (by omega)
end
def ZOs (x:LS):Nat:=x.held.length+x.lost
def pot (ls:List LS):Nat:=(ls.map ZOs).sum
theorem ZQT (φ:LS→Nat):∀ (ls:List LS) (i:Nat) (x y:LS),ls[i]?=some x→((ls.set i y).map φ).sum+φ x=(ls.map φ).sum+φ y
 | [],i,x,y,h=>by simp at h
 | a::ls,0,x,y,h=>by
   simp only [List.getElem?_cons_zero,Option.some.injEq] at h
   subst h
   simp only [List.set_cons_zero,List.map_cons,List.sum_cons]
   omega
 | a::ls,i+1,x,y,h=>by
   simp only [List.getElem?_cons_succ] at h
   have:=ZQT φ ls i x y h
   simp only [List.set_cons_succ,List.map_cons,List.sum_cons]
   omega
theorem ZIv {ls:List LS} {i:Nat} {x y:LS} (h:ls[i]?=some x):pot (ls.set i y)+ZOs x=pot ls+ZOs y:=ZQT ZOs ls i x y h
theorem ZMo {s:SS} {m:Msg} (h:(ZAi s m).1.up=true):s.up=true:=by
 unfold ZAi at h
 split at h<;>exact h
theorem ZVL {x:LS} {m:Msg} (h:(lsV x m).s.up=true):x.s.up=true:=by
 unfold lsV ZFV at h
 dsimp only at h
 split at h
 ·exact ZMo ((ZCh [(ZAi x.s m).2.1] ((ZAi x.s m).1,x.out,false)).2.2.2.2.2.1 h)
 ·exact ZMo h
def ZDv (a b:List LS):Prop:=b.length=a.length∧pot b=pot a∧∀ (i:Nat) (y:LS),b[i]?=some y→y.s.up=true→∃ x,a[i]?=some x∧x.s.up=true
theorem ZDv.refl (a:List LS):ZDv a a:=⟨rfl,rfl,fun i y h hu=>⟨y,h,hu⟩⟩
theorem ZDv.trans {a b c:List LS} (h:ZDv a b) (g:ZDv b c):ZDv a c:=⟨g.1.trans h.1,g.2.1.trans h.2.1,fun i y hy hu=>by
 obtain ⟨x,hx,hxu⟩:=g.2.2 i y hy hu
 exact h.2.2 i x hx hxu⟩
theorem ZMd (st:List LS×List Bool) (o:Out):ZDv st.1 (ZA1 st o).1:=by
 unfold ZA1
 split
 ·rename_i hn
  have hlt:o.To.toNat<st.1.length:=by omega
  have hg:st.1[o.To.toNat]?=some st.1[o.To.toNat]:=List.getElem?_eq_getElem hlt
  rw [hg]
  dsimp only
  generalize st.1[o.To.toNat]=x at*
  refine ⟨by rw [List.length_set],?_,fun i y hy hu=>?_⟩
  ·have:=ZIv (y:=lsV x (ZJI o)) hg
   have e:ZOs (lsV x (ZJI o))=ZOs x:=rfl
   omega
  ·by_cases hi:o.To.toNat=i
   ·subst hi
    rw [List.getElem?_set_self hlt] at hy
    cases hy
    exact ⟨x,hg,ZVL hu⟩
   ·rw [List.getElem?_set_ne hi] at hy
    exact ⟨y,hy,hu⟩
 ·exact ZDv.refl _
theorem ZGS:∀ (os:List Out) (st:List LS×List Bool),ZDv st.1 (os.foldl ZA1 st).1
 | [],st=>ZDv.refl _
 | o::os,st=>by
   rw [List.foldl_cons]
   exact (ZMd st o).trans (ZGS os (ZA1 st o))
theorem ZML (ls:List LS) (os:List Out):ZDv ls (ZAy ls os).1:=ZGS os _
theorem ZKI {P:VS→Prop} (hs:∀ (S:VS) (os:List Out),P S→P ⟨S.d,(ZAy S.ls os).1⟩) (hg:∀ (S:VS) (who:Int),P S→P ⟨(ZAU S.d who).1,S.ls⟩):∀ (ps:List (Bool×Nat)) (acc:VS×List Bool),P acc.1→P (ps.foldl ZAP acc).1
 | [],acc,h=>h
 | p::ps,acc,h=>by
   rw [List.foldl_cons]
   refine ZKI hs hg ps _ ?_
   unfold ZAP
   split
   ·exact hs ⟨(ZAU acc.1.d (p.2:Int)).1,acc.1.ls⟩ _ (hg acc.1 _ h)
   ·exact h
theorem ZP5 {P:VS→Prop} (hs:∀ (S:VS) (os:List Out),P S→P ⟨S.d,(ZAy S.ls os).1⟩) (hg:∀ (S:VS) (who:Int),P S→P ⟨(ZAU S.d who).1,S.ls⟩) {S T:VS} {dn:List Bool} (h:ZEf S dn T):P S→P T:=by
 induction h with
 | done _=>exact id
 | @step S S' dn e t ih=>exact fun hp=>ih (ZKI hs hg dn.zipIdx (S,List.replicate S.ls.length false) hp)
theorem ZJb {P:VS→Prop} (hs:∀ (S:VS) (os:List Out),P S→P ⟨S.d,(ZAy S.ls os).1⟩) (hg:∀ (S:VS) (who:Int),P S→P ⟨(ZAU S.d who).1,S.ls⟩) {S T:VS} {os:List Out} (h:ZMm S os T) (hp:P S):P T:=
 ZP5 hs hg h (hs S os hp)
theorem ZCU {S T:VS} {os:List Out} (h:ZMm S os T):ZDv S.ls T.ls:=
 ZJb (P:=fun X=>ZDv S.ls X.ls) (fun X os hp=>hp.trans (ZML X.ls os)) (fun X who hp=>hp) h (ZDv.refl _)
def ZEd (a b:List (List ZE)):Prop:=b.length=a.length∧∀ (k:Nat) (y:List ZE),b[k]?=some y→∃ x,a[k]?=some x∧y.Sublist x
theorem ZEd.refl (a:List (List ZE)):ZEd a a:=⟨rfl,fun k y h=>⟨y,h,List.Sublist.refl _⟩⟩
theorem ZEd.trans {a b c:List (List ZE)} (h:ZEd a b) (g:ZEd b c):ZEd a c:=⟨g.1.trans h.1,fun k z hz=>by
 obtain ⟨y,hy,s1⟩:=g.2 k z hz
 obtain ⟨x,hx,s2⟩:=h.2 k y hy
 exact ⟨x,hx,s1.trans s2⟩⟩
theorem ZGv {who:Int} {R:List ZE→List ZE→Prop}:∀ (bs:List (List ZE)) (acc:List (List ZE)×List Out),(∀ b∈bs,∀ os,R b (ZAA who (b,os)).1)→
 ∃ zs,(bs.foldl (ZAh who) acc).1=acc.1++zs∧zs.length=bs.length∧∀ (k:Nat) (z:List ZE),zs[k]?=some z→∃ b,bs[k]?=some b∧R b z
 | [],acc,_=>⟨[],by simp,rfl,fun k z h=>by simp at h⟩
 | b::bs,acc,h=>by
   obtain ⟨zs,e,hl,hz⟩:=ZGv (R:=R) bs (ZAh who acc b) fun x hx=>h x (by simp [hx])
   refine ⟨(ZAA who (b,acc.2)).1::zs,?_,by simp [hl],fun k z hk=>?_⟩
   ·rw [List.foldl_cons,e]
    show (acc.1++[_])++zs=_
    rw [List.append_assoc]
    rfl
   ·cases k with
    | zero=>
      simp only [List.getElem?_cons_zero,Option.some.injEq] at hk
      exact ⟨b,rfl,hk▸h b (by simp) acc.2⟩
    | succ k=>
      simp only [List.getElem?_cons_succ] at hk
      exact hz k z hk
theorem ZNd {who:Int} {S:DS} {R:List ZE→List ZE→Prop} (h:∀ b∈S.books,∀ os,R b (ZAA who (b,os)).1):
 (ZAU S who).1.books.length=S.books.length∧∀ (k:Nat) (z:List ZE),(ZAU S who).1.books[k]?=some z→∃ b,S.books[k]?=some b∧R b z:=by
 obtain ⟨zs,e,hl,hz⟩:=ZGv (R:=R) S.books ([],[]) h
 have e2:(ZAU S who).1.books=zs:=by rw [(ZHs S who).1]; unfold ZCB; rw [e]; rfl
 rw [e2]
 exact ⟨hl,hz⟩
theorem ZLO (S:DS) (who:Int):ZEd S.books (ZAU S who).1.books:=ZNd fun b _ os=>(ZBW who (b,os)).1
theorem ZHT:∀ (qs:List Za) (S:DS),(qs.foldl goneQ S)={S with quotes:=(qs.foldl goneQ S).quotes}
 | [],S=>rfl
 | q::qs,S=>by
   rw [List.foldl_cons,ZHT qs (goneQ S q)]
   unfold goneQ
   split<;>rfl
theorem ZQB (S:DS) (who:Int):(ZAU S who).1={S with books:=(ZAU S who).1.books,quotes:=(ZAU S who).1.quotes}:=by
 rw [(ZHs S who).1]
 exact ZHT _ {S with books:=(ZCB who S.books).1}
structure ZB8 (S T:DS):Prop where
 books:ZEd S.books T.books
 rest:T={S with books:=T.books,quotes:=T.quotes}
theorem ZB8.refl (S:DS):ZB8 S S:=⟨ZEd.refl _,rfl⟩
theorem ZB8.trans {S T U:DS} (h:ZB8 S T) (g:ZB8 T U):ZB8 S U:=⟨h.books.trans g.books,by
 have e1:=h.rest
 have e2:=g.rest
 generalize T.books=b1 at*
 generalize T.quotes=q1 at*
 generalize U.books=b2 at*
 generalize U.quotes=q2 at*
 subst e1
 exact e2⟩
theorem ZB5 (S:DS) (who:Int):ZB8 S (ZAU S who).1:=⟨ZLO S who,ZQB S who⟩
theorem ZA2 {S T:VS} {os:List Out} (h:ZMm S os T):ZB8 S.d T.d:=
 ZJb (P:=fun X=>ZB8 S.d X.d) (fun X os hp=>hp) (fun X who hp=>hp.trans (ZB5 X.d who)) h (ZB8.refl _)
def ZKq (S:VS) (who:Nat) (x:LS) (bs:List Int) (T:VS):Prop:=
 ∃ (U:VS) (y:LS),ZGV (who:Int) ⟨S.d,S.ls.set who (ZBN x bs).1⟩ (ZBN x bs).2.1 U∧U.ls[who]?=some y∧
  (if (ZBN x bs).2.2=true∨((ZBN x bs).1.s.up=true∧y.s.up=false) then ZMm ⟨(ZAU U.d (who:Int)).1,U.ls⟩ (ZAU U.d (who:Int)).2 T else T=U)
def ZE0 (x:LS):LS×Bool:=(⟨x.held,x.lost,(ZFL x.s x.out).1,(ZFL x.s x.out).2.1⟩,(ZFL x.s x.out).2.2)
inductive ZDg (S0:VS):Nat→VS→Prop
 | zero:ZDg S0 0 S0
 | stay {j:Nat} {S:VS} {x:LS}:ZDg S0 j S→S.ls[j]?=some x→(ZE0 x).2=false→ZDg S0 (j+1) ⟨S.d,S.ls.set j (ZE0 x).1⟩
 | down {j:Nat} {S T:VS} {x:LS}:ZDg S0 j S→S.ls[j]?=some x→(ZE0 x).2=true→ZMm ⟨(ZAU S.d (j:Int)).1,S.ls.set j (ZE0 x).1⟩ (ZAU S.d (j:Int)).2 T→ZDg S0 (j+1) T
def ZRR (S T:VS):Prop:=∃ (d:DS) (os:List Out) (U:VS),ZDX {S.d with now:=IntKind.i64.wrap (S.d.now+1)} d∧ZDm os∧ZMm ⟨d,S.ls⟩ os U∧ZDg U S.ls.length T
def ZLU (x:LS):LS×Bool:=({x with s:=(ZLl x.s).1},(ZLl x.s).2)
def ZVo (S:VS) (who:Nat) (x:LS) (T:VS):Prop:=
 if (ZLU x).2=true then ZMm ⟨(ZAU S.d (who:Int)).1,S.ls.set who (ZLU x).1⟩ (ZAU S.d (who:Int)).2 T else T=⟨S.d,S.ls.set who (ZLU x).1⟩
def DoR (S:VS) (kind who:Int) (bs:List Int) (T:VS) (r:Bool):Prop:=
 if kind=2 then r=true∧ZRR S T
 else if ¬(0≤who∧who<S.ls.length) then r=false∧T=S
 else if kind=1 then r=true∧∃ x,S.ls[who.toNat]?=some x∧ZKq S who.toNat x bs T
 else if kind=3 then r=true∧∃ x,S.ls[who.toNat]?=some x∧ZVo S who.toNat x T
 else r=false∧T=S
def ZKs (n t:Nat) (S:VS):Prop:=∃ N,VOk N (81000*N+1000000*n) (t+8*n) S∧N+pot S.ls≤t
structure ZB3 (n:Int) (l:List ZE):Prop where
 ids:(l.map fun x=>x.ID).Nodup
 ok:∀ x∈l,Zs x=true∧x.Owner<n
 unc:∀ x∈l,∀ y∈l,x.Side=1→y.Side=2→x.Price<y.Price
theorem ZB3.nil (n:Int):ZB3 n []:=⟨by simp,by simp,by simp⟩
theorem ZB3.sub {n:Int} {l l':List ZE} (h:ZB3 n l) (hs:l'.Sublist l):ZB3 n l':=
 ⟨h.ids.sublist (hs.map _),fun x hx=>h.ok x (hs.subset hx),fun x hx y hy=>h.unc x (hs.subset hx) y (hs.subset hy)⟩
theorem ZLS {o:ZE} {left:Int} (h:Zs o=true) (h1:1≤left) (h2:left≤o.Left):Zs (ZBT o left)=true:=by
 unfold Zs at h ⊢
 simp only [Bool.and_eq_true,decide_eq_true_eq] at h ⊢
 obtain ⟨a1,a2,a3,a4,a5,a6,a7,a8⟩:=h
 exact ⟨a1,a2,a3,a4,h1,(by show left≤_; omega),a7,a8⟩
theorem ZB3.less {n:Int} {l:List ZE} (h:ZB3 n l) (id left:Int):ZB3 n (ZDl l id left).1:=by
 rcases ZEz l id left with e|⟨i,o,ho,_,h1,h2,e⟩
 ·rw [e]; exact h
 ·rw [e]
  have hm:=List.mem_of_getElem? ho
  have hlt:=(List.getElem?_eq_some_iff.1 ho).1
  have e2:(l.set i (ZBT o left)).map (fun x=>x.ID)=l.map fun x=>x.ID:=by
   rw [List.map_set]
   have:(ZBT o left).ID=(l.map fun x=>x.ID)[i]'(by simpa using hlt):=by
    rw [List.getElem_map,(List.getElem?_eq_some_iff.1 ho).2]; rfl
   rw [this,List.set_getElem_self]
  have same:∀ x∈l.set i (ZBT o left),∃ y∈l,x.Side=y.Side∧x.Price=y.Price:=fun x hx=>by
   rcases List.mem_or_eq_of_mem_set hx with hx|hx
   ·exact ⟨x,hx,rfl,rfl⟩
   ·exact ⟨o,hm,by subst hx; rfl,by subst hx; rfl⟩
  refine ⟨by rw [e2]; exact h.ids,fun x hx=>?_,fun x hx y hy s1 s2=>?_⟩
  ·rcases List.mem_or_eq_of_mem_set hx with hx|hx
   ·exact h.ok x hx
   ·subst hx
    exact ⟨ZLS (h.ok o hm).1 h1 h2,(h.ok o hm).2⟩
  ·obtain ⟨x',hx',a1,a2⟩:=same x hx
   obtain ⟨y',hy',b1,b2⟩:=same y hy
   rw [a2,b2]
   exact h.unc x' hx' y' hy' (a1▸s1) (b1▸s2)
theorem ZB3.add {n:Int} {l:List ZE} {o:ZE} (h:ZB3 n l) (ho:o.Owner<n) (hc:∀ x∈l,(o.Side=1→x.Side=2→o.Price<x.Price)∧(o.Side=2→x.Side=1→x.Price<o.Price)):ZB3 n (ZN9 l o).1:=by
 unfold ZN9
 split
 ·exact h
 ·rename_i hn
  split
  ·exact h
  ·have hb:Zs o=true:=by
    cases e:Zs o with
    | true=>rfl
    | false=>exact absurd (.inl e) hn
   have ha:l.any (fun x=>x.ID==o.ID||x.Seq==o.Seq)=false:=by
    cases e:l.any fun x=>x.ID==o.ID||x.Seq==o.Seq with
    | false=>rfl
    | true=>exact absurd (.inr e) hn
   have ha:=List.any_eq_false.1 ha
   refine ⟨?_,fun x hx=>?_,fun x hx y hy s1 s2=>?_⟩
   ·rw [List.map_append,List.nodup_append]
    refine ⟨h.ids,by simp,fun a ha1 b hb1=>?_⟩
    simp only [List.map_cons,List.map_nil,List.mem_singleton] at hb1
    subst hb1
    obtain ⟨x,hx,rfl⟩:=List.mem_map.1 ha1
    have:=ha x hx
    simp only [Bool.or_eq_true,beq_iff_eq,not_or] at this
    exact this.1
   ·rcases List.mem_append.1 hx with hx|hx
    ·exact h.ok x hx
    ·simp only [List.mem_singleton] at hx
     subst hx
     exact ⟨hb,ho⟩
   ·rcases List.mem_append.1 hx with g1|g1<;>rcases List.mem_append.1 hy with g2|g2
    ·exact h.unc x g1 y g2 s1 s2
    ·have e:y=o:=by simpa using g2
     rw [e] at s2 ⊢
     exact (hc x g1).2 s2 s1
    ·have e:x=o:=by simpa using g1
     rw [e] at s1 ⊢
     exact (hc y g2).1 s1 s2
    ·have e:x=o:=by simpa using g1
     have e2:y=o:=by simpa using g2
     rw [e] at s1
     rw [e2] at s2
     omega
theorem ZB3.meet {n:Int} {c:ZCx} (x:ZE) (h:ZB3 n c.l):ZB3 n (Zp c x).l:=by
 unfold Zp
 split
 ·exact h
 ·split
  ·exact h.sub (ZAj _ _)
  ·dsimp only
   split
   ·exact h.sub (ZAj _ _)
   ·exact h.less _ _
theorem ZSn {n:Int}:∀ (ms:List ZE) (c:ZCx),ZB3 n c.l→ZB3 n (ms.foldl Zp c).l
 | [],c,h=>h
 | x::ms,c,h=>ZSn ms (Zp c x) (h.meet x)
theorem ZOM {c:ZCx} (h:c.o.Left=0) (x:ZE):Zp c x=c:=by unfold Zp; rw [if_pos h]
theorem ZIQ:∀ (ms:List ZE) (c:ZCx),c.o.Left=0→ms.foldl Zp c=c
 | [],c,_=>rfl
 | x::ms,c,h=>by rw [List.foldl_cons,ZOM h]; exact ZIQ ms c h
theorem ZPK {c:ZCx} {x:ZE} (h:(Zp c x).o.Left≠0):(Zp c x).l=ZBu c.l x.ID:=by
 unfold Zp at h ⊢
 split
 ·rename_i e
  rw [if_pos e] at h
  exact absurd e h
 ·rename_i e
  rw [if_neg e] at h
  split
  ·rfl
  ·rename_i e2
   rw [if_neg e2] at h
   dsimp only at h ⊢
   split
   ·rfl
   ·rename_i e3
    exfalso
    have h:c.o.Left-min c.o.Left x.Left≠0:=h
    omega
theorem ZII:∀ (ms:List ZE) (c:ZCx),(ms.foldl Zp c).o.Left≠0→(ms.foldl Zp c).l=ms.foldl (fun l x=>ZBu l x.ID) c.l
 | [],c,_=>rfl
 | x::ms,c,h=>by
   rw [List.foldl_cons] at h
   have h1:(Zp c x).o.Left≠0:=fun e=>h (by rw [ZIQ ms _ e]; exact e)
   rw [List.foldl_cons,ZII ms (Zp c x) h,ZPK h1,List.foldl_cons]
theorem ZM1:∀ {l:List ZE} {id:Int},(l.map fun x=>x.ID).Nodup→∀ y∈ZBu l id,y∈l∧y.ID≠id
 | [],_,_,y,hy=>by simp [ZBu] at hy
 | a::l,id,hn,y,hy=>by
   rw [List.map_cons,List.nodup_cons] at hn
   unfold ZBu at hy
   rw [List.eraseP_cons] at hy
   cases e:(a.ID==id) with
   | true=>
     rw [e] at hy
     simp only [cond_true] at hy
     have e:a.ID=id:=by simpa using e
     exact ⟨List.mem_cons_of_mem _ hy,fun e2=>hn.1 (List.mem_map.2 ⟨y,hy,by rw [e2,e]⟩)⟩
   | false=>
     rw [e] at hy
     simp only [cond_false] at hy
     rcases List.mem_cons.1 hy with rfl|hy
     ·exact ⟨by simp,by simpa using e⟩
     ·have:=ZM1 hn.2 y hy
      exact ⟨List.mem_cons_of_mem _ this.1,this.2⟩
theorem ZGt:∀ (ms l:List ZE),(l.map fun x=>x.ID).Nodup→∀ y∈ms.foldl (fun l x=>ZBu l x.ID) l,y∈l∧∀ x∈ms,y.ID≠x.ID
 | [],l,_,y,hy=>⟨hy,by simp⟩
 | m::ms,l,hn,y,hy=>by
   rw [List.foldl_cons] at hy
   obtain ⟨h1,h2⟩:=ZGt ms (ZBu l m.ID) (hn.sublist ((ZAj l m.ID).map _)) y hy
   obtain ⟨h3,h4⟩:=ZM1 hn y h1
   refine ⟨h3,fun x hx=>?_⟩
   rcases List.mem_cons.1 hx with rfl|hx
   ·exact h4
   ·exact h2 x hx
theorem ZGY {s a b c:Int} (h1:ZAC s b a=false) (h2:ZAC s c b=false):ZAC s c a=false:=by
 unfold ZAC at h1 h2 ⊢
 simp only [Bool.or_eq_false_iff,Bool.and_eq_false_iff,decide_eq_false_iff_not,beq_eq_false_iff_ne] at h1 h2 ⊢
 omega
theorem ZOh {s a b:Int} (h:ZAC s a b=true):ZAC s b a=false:=by
 unfold ZAC at h ⊢
 simp only [Bool.or_eq_false_iff,Bool.and_eq_false_iff,decide_eq_false_iff_not,beq_eq_false_iff_ne,Bool.or_eq_true,Bool.and_eq_true,decide_eq_true_eq,beq_iff_eq] at h ⊢
 omega
def ZPN (s:Int) (a b:ZE):Prop:=ZAC s b.Price a.Price=false
theorem ZIg {s:Int} {o:ZE} (ho:o.Side=s):∀ {l:List ZE},(∀ x∈l,x.Side=s)→l.Pairwise (ZPN s)→(ZQ2 o l).Pairwise (ZPN s)
 | [],_,_=>by simp [ZQ2]
 | x::l,hs,hp=>by
   have hp':=List.pairwise_cons.1 hp
   unfold ZQ2
   split
   ·rename_i e
    have hox:ZAC s x.Price o.Price=false:=by
     unfold ZNS at e
     rw [ho] at e
     cases h1:ZAC s o.Price x.Price with
     | true=>exact ZOh h1
     | false=>
       cases h2:ZAC s x.Price o.Price with
       | false=>rfl
       | true=>
         rw [h1,h2] at e
         simp at e
    refine List.pairwise_cons.2 ⟨fun z hz=>?_,hp⟩
    rcases List.mem_cons.1 hz with rfl|hz
    ·exact hox
    ·exact ZGY hox (hp'.1 z hz)
   ·rename_i e
    refine List.pairwise_cons.2 ⟨fun z hz=>?_,ZIg ho (fun y hy=>hs y (by simp [hy])) hp'.2⟩
    rcases List.mem_cons.1 ((ZHf o l).mem_iff.1 hz) with rfl|hz
    ·show ZAC s z.Price x.Price=false
     cases h1:ZAC s z.Price x.Price with
     | false=>rfl
     | true=>
       exfalso
       apply e
       unfold ZNS
       rw [ho,h1]
       simp
    ·exact hp'.1 z hz
theorem ZHE {s:Int}:∀ {l:List ZE},(∀ x∈l,x.Side=s)→(ZJV l).Pairwise (ZPN s)
 | [],_=>List.Pairwise.nil
 | x::l,h=>ZIg (h x (by simp)) (fun y hy=>h y (by simp [(ZEN l).mem_iff.1 hy])) (ZHE fun y hy=>h y (by simp [hy]))
theorem ZMR (l:List ZE) (s:Int):(ZAZ l s).Pairwise (ZPN s):=ZHE fun x hx=>by simpa using (List.mem_filter.1 hx).2
theorem ZSc {α:Type} {p:α→Bool} {R:α→α→Prop} (hR:∀ a b,R a b→p a=false→p b=false):∀ {l:List α},l.Pairwise R→∀ y∈l,y∈l.takeWhile p∨p y=false
 | [],_,y,hy=>by simp at hy
 | a::l,hp,y,hy=>by
   have hp:=List.pairwise_cons.1 hp
   cases e:p a with
   | true=>
     rw [List.takeWhile_cons,e]
     simp only [if_true]
     rcases List.mem_cons.1 hy with rfl|hy
     ·exact .inl (by simp)
     ·exact (ZSc hR hp.2 y hy).imp (fun h=>List.mem_cons_of_mem _ h) id
   | false=>
     rcases List.mem_cons.1 hy with rfl|hy
     ·exact .inr e
     ·exact .inr (hR a y (hp.1 y hy) e)
theorem ZOL (l:List ZE) (o:ZE) (how:Int):(ZBF l o how).o.ID=o.ID∧(ZBF l o how).o.Seq=o.Seq∧(ZBF l o how).o.Owner=o.Owner∧(ZBF l o how).o.Side=o.Side∧(ZBF l o how).o.Price=o.Price:=by
 have key:∀ (ms:List ZE) (c:ZCx),(ms.foldl Zp c).o.ID=c.o.ID∧(ms.foldl Zp c).o.Seq=c.o.Seq∧(ms.foldl Zp c).o.Owner=c.o.Owner∧(ms.foldl Zp c).o.Side=c.o.Side∧(ms.foldl Zp c).o.Price=c.o.Price:=by
  intro ms
  induction ms with
  | nil=>intro c; exact ⟨rfl,rfl,rfl,rfl,rfl⟩
  | cons x ms ih=>
    intro c
    have h1:=ih (Zp c x)
    have h2:=ZFr c x
    rw [List.foldl_cons]
    exact ⟨h1.1.trans h2.1,h1.2.1.trans h2.2.1,h1.2.2.1.trans h2.2.2.1,h1.2.2.2.1.trans h2.2.2.2.1,h1.2.2.2.2.trans h2.2.2.2.2⟩
 exact key _ _
theorem ZPF {s:Int} (h:s=1∨s=2):ZBq s=3-s:=by
 unfold ZBq ZBK
 rcases h with rfl|rfl<;>rfl
theorem ZOA {n:Int} {l:List ZE} {o:ZE} {how:Int} (h:ZB3 n l) (hh:how≠4) (hl:(ZBF l o how).o.Left≠0):∀ x∈(ZBF l o how).l,(o.Side=1→x.Side=2→o.Price<x.Price)∧(o.Side=2→x.Side=1→x.Price<o.Price):=by
 intro x hx
 unfold ZBF at hx hl
 rw [ZII _ _ hl] at hx
 obtain ⟨h1,h2⟩:=ZGt _ _ h.ids x hx
 have key:∀ s t,o.Side=s→x.Side=t→(s=1∨s=2)→t=3-s→ZAC s x.Price o.Price=true:=by
  intro s t hs ht h12 hst
  have e:ZBq o.Side=t:=by rw [hs,ZPF h12,hst]
  have hm:x∈ZAZ l (ZBq o.Side):=Z7.2 ⟨h1,by rw [e,ht]⟩
  have hR:∀ a b:ZE,ZPN (ZBq o.Side) a b→ZFP how o a=false→ZFP how o b=false:=by
   intro a b hab ha
   rw [e] at hab
   unfold ZFP ZKC at ha ⊢
   unfold ZPN at hab
   rw [hs] at ha ⊢
   simp only [Bool.or_eq_false_iff,beq_eq_false_iff_ne,Bool.and_eq_false_iff,Bool.not_eq_false'] at ha ⊢
   refine ⟨ha.1,ha.2.imp id fun ha=>?_⟩
   subst hst
   unfold ZAC at hab ha ⊢
   simp only [Bool.or_eq_false_iff,Bool.and_eq_false_iff,decide_eq_false_iff_not,beq_eq_false_iff_ne,Bool.or_eq_true,Bool.and_eq_true,decide_eq_true_eq,beq_iff_eq] at hab ha ⊢
   omega
  rcases ZSc hR (ZMR l (ZBq o.Side)) x hm with hx2|hx2
  ·exact absurd rfl (h2 x hx2)
  ·unfold ZFP ZKC at hx2
   rw [hs] at hx2
   have hsb:ZBK s=true:=by
    unfold ZBK
    rcases h12 with rfl|rfl<;>rfl
   rw [hsb] at hx2
   simp at hx2
   exact hx2.2
 refine ⟨fun a b=>?_,fun a b=>?_⟩
 ·have:=key 1 2 a b (.inl rfl) rfl
  unfold ZAC at this
  simp only [Bool.or_eq_true,Bool.and_eq_true,decide_eq_true_eq,beq_iff_eq] at this
  omega
 ·have:=key 2 1 a b (.inr rfl) rfl
  unfold ZAC at this
  simp only [Bool.or_eq_true,Bool.and_eq_true,decide_eq_true_eq,beq_iff_eq] at this
  omega
theorem ZZK {n:Int} {l:List ZE} {o:ZE} {how:Int} (h:ZB3 n l) (ho:o.Owner<n):ZB3 n (doV l o how).1:=by
 unfold doV
 split
 ·exact h
 ·dsimp only
  have hc:ZB3 n (ZBF l o how).l:=ZSn _ _ h
  split
  ·rename_i hs
   have hh:how≠4:=fun e=>by
    have:=hs.1
    rw [e] at this
    exact absurd this (by decide)
   have hsame:=ZOL l o how
   have hf:=ZOA (o:=o) (how:=how) h hh (by omega)
   refine hc.add (by rw [hsame.2.2.1]; exact ho) fun x hx=>?_
   rw [hsame.2.2.2.1,hsame.2.2.2.2]
   exact hf x hx
  ·exact hc
def ZAb (S:DS):Prop:=∀ b∈S.books,ZB3 S.parties.length b
theorem ZGd {S:DS} (h:ZAb S) (n:Int):ZB3 S.parties.length (Zq S n):=by
 unfold Zq
 cases e:S.books[n.toNat]? with
 | none=>exact ZB3.nil _
 | some b=>exact h b (List.mem_of_getElem? e)
theorem ZW7 {S:DS} (h:ZAb S) {n:Int} {x:List ZE} (hx:ZB3 S.parties.length x):ZAb (ZBV S n x):=fun b hb=>by
 rcases List.mem_or_eq_of_mem_set hb with hb|hb
 ·exact h b hb
 ·subst hb; exact hx
structure ZAf (S T:DS):Prop where
 parties:T.parties=S.parties
 bonds:T.bonds.length=S.bonds.length
 books:T.books.length=S.books.length
 look:T.look=S.look
theorem ZAf.refl (S:DS):ZAf S S:=⟨rfl,rfl,rfl,rfl⟩
theorem ZAf.trans {S T U:DS} (h:ZAf S T) (g:ZAf T U):ZAf S U:=⟨g.parties.trans h.parties,g.bonds.trans h.bonds,g.books.trans h.books,g.look.trans h.look⟩
theorem ZAf.set (S:DS) (n:Int) (x:List ZE):ZAf S (ZBV S n x):=⟨rfl,rfl,by show (S.books.set _ _).length=_; rw [List.length_set],rfl⟩
theorem ZEx (c:DC) (who n:Int) (o:ZE) (how:Int):(ZAX c who n o how).1.d.books=c.d.books.set n.toNat (ZJK c n o how).1∧ZAf c.d (ZAX c who n o how).1.d:=by
 have h:=(ZED c who n o how).1
 generalize ZAX c who n o how=r at*
 rw [h]
 exact ⟨rfl,rfl,rfl,by dsimp only; rw [List.length_set],rfl⟩
theorem ZIN {c:DC} {who n how:Int} {o:ZE} (h:ZAb c.d) (ho:o.Owner<c.d.parties.length):ZAb (ZAX c who n o how).1.d:=by
 obtain ⟨e,hs⟩:=ZEx c who n o how
 intro b hb
 rw [e] at hb
 rw [hs.parties]
 rcases List.mem_or_eq_of_mem_set hb with hb|hb
 ·exact h b hb
 ·subst hb
  exact ZZK (o:=ZGP c o) (ZGd h n) ho
theorem ZVk {c:DC} {who:Int} {m:Msg} (h:ZAb c.d) (hw:who<c.d.parties.length):ZAb (ZD8 c who m).1.d∧ZAf c.d (ZD8 c who m).1.d:=by
 have hm:=ZIN (c:=c) (who:=who) (n:=m.F_0) (how:=m.F_4) (o:=ZBQ c who m) h hw
 have hb:=(ZEx c who m.F_0 (ZBQ c who m) m.F_4).2
 unfold ZD8
 split
 ·exact ⟨h,ZAf.refl _⟩
 split
 ·exact ⟨h,ZAf.refl _⟩
 split
 ·exact ⟨h,ZAf.refl _⟩
 split
 ·exact ⟨hm,hb.parties,hb.bonds,hb.books,hb.look⟩
 ·exact ⟨hm,hb⟩
theorem ZTD {c:DC} {who n price qty:Int} {o:ZE} (h:ZAb c.d) (hw:o.Owner<c.d.parties.length):ZAb (ZC0 c who n o price qty).1.d∧ZAf c.d (ZC0 c who n o price qty).1.d:=by
 unfold ZC0
 split
 ·exact ⟨h,ZAf.refl _⟩
 split
 ·exact ⟨ZW7 h ((ZGd h n).less _ _),ZAf.set _ _ _⟩
 ·have h1:ZAb (ZBV c.d n (ZBu (Zq c.d n) o.ID)):=ZW7 h ((ZGd h n).sub (ZAj _ _))
  have hm:=ZIN (c:={c with d:=ZBV c.d n (ZBu (Zq c.d n) o.ID)}) (who:=who) (n:=n) (how:=0) (o:=ZF2 o price qty) h1 hw
  have hb:=(ZEx {c with d:=ZBV c.d n (ZBu (Zq c.d n) o.ID)} who n (ZF2 o price qty) 0).2
  exact ⟨hm,(ZAf.set _ _ _).trans hb⟩
theorem ZS6 {c:DC} {who:Int} {m:Msg} (h:ZAb c.d) (hw:who<c.d.parties.length):ZAb (ZB9 c who m).1.d∧ZAf c.d (ZB9 c who m).1.d:=by
 unfold ZB9
 split
 ·exact ZVk h hw
 ·cases ZBR c.d m.F_0 with
  | none=>exact ⟨h,ZAf.refl _⟩
  | some n=>
    dsimp only
    split
    ·exact ⟨h,ZAf.refl _⟩
    ·rename_i e
     have e:=Classical.not_not.1 e
     split
     ·exact ZTD (c:={c with id:=m.F_0}) h (by rw [e]; exact hw)
     ·exact ⟨ZW7 h ((ZGd h n).sub (ZAj _ _)),ZAf.set _ _ _⟩
structure ZPX (c c':DC):Prop where
 books:c'.d.books=c.d.books
 shape:ZAf c.d c'.d
theorem ZPX.u {c c':DC} (k:ZPX c c') (h:ZAb c.d):ZAb c'.d:=fun b hb=>by
 rw [k.books] at hb
 rw [k.shape.parties]
 exact h b hb
theorem ZTH (c:DC) (who:Int) (m:Msg):ZPX c (ZCv c who m).1:=by
 unfold ZCv ZJX
 (repeat' split)<;>exact ⟨rfl,rfl,rfl,rfl,rfl⟩
theorem ZZD (c:DC) (a:Ask) (q:Za):ZPX c (ZPf c a q).1:=by
 unfold ZPf
 (repeat' split)<;>exact ⟨rfl,rfl,rfl,rfl,rfl⟩
theorem ZX3 (c:DC) (who:Int) (m:Msg):ZPX c (ZH7 c who m).1:=by
 unfold ZH7
 (repeat' split)<;>first|exact ⟨rfl,rfl,rfl,rfl,rfl⟩|exact ZZD c _ _
theorem ZOz (c:DC) (a:Ask):ZPX c (ZAT c a):=by
 unfold ZAT
 split<;>exact ⟨rfl,rfl,rfl,rfl,rfl⟩
theorem ZVh (c:DC) (who:Int) (m:Msg):ZPX c (ZEc c who m).1:=by
 unfold ZEc
 have key:∀ (id:Int) (a:Ask),ZPX c (ZAT {c with id:=id} a):=fun id a=>by
  have k:=ZOz {c with id:=id} a
  exact ⟨k.books,k.shape.parties,k.shape.bonds,k.shape.books,k.shape.look⟩
 (repeat' split)<;>first|exact ⟨rfl,rfl,rfl,rfl,rfl⟩|exact key _ _
theorem ZYe (c:DC) (who id:Int):ZPX c (ZHx c who id).1:=by
 unfold ZHx
 split<;>exact ⟨rfl,rfl,rfl,rfl,rfl⟩
theorem ZXX (c:DC) (n is:Int):ZPX c (ZHG c n is).1:=by
 unfold ZHG
 (repeat' split)<;>first|exact ⟨rfl,rfl,rfl,rfl,rfl⟩|exact ⟨rfl,rfl,(by dsimp only; rw [List.length_set]),rfl,rfl⟩
theorem ZQd (c:DC) (who:Int) (m:Msg):ZPX c (ZBz c who m).1:=by
 unfold ZBz
 (repeat' split)<;>first|exact ⟨rfl,rfl,rfl,rfl,rfl⟩|skip
 have h:=(ZGo (Z6 c who m) (List.range c.d.parties.length) (ZPg c (Z6 c who m))).1
 exact ⟨by dsimp only; rw [h]; rfl,by dsimp only; rw [h]; exact ⟨rfl,rfl,rfl,rfl⟩⟩
theorem ZYN {c:DC} {who:Int} {m:Msg} (h:ZAb c.d):ZAb (ZCJ c who m).1.d∧ZAf c.d (ZCJ c who m).1.d:=by
 have k:∀ {c':DC},ZPX c c'→ZAb c'.d∧ZAf c.d c'.d:=fun k=>⟨k.u h,k.shape⟩
 unfold ZCJ
 split
 ·exact ⟨h,ZAf.refl _⟩
 ·rename_i e
  have hm:ZSz c.d who m=true:=by simpa using e
  unfold ZSz at hm
  simp only [Bool.and_eq_true] at hm
  have hw:=ZKM hm.2.2
  split
  ·exact ZS6 h hw.2
  split
  ·exact k (ZTH c who m)
  split
  ·exact k (ZX3 c who m)
  split
  ·exact k (ZVh c who m)
  split
  ·exact k (ZYe c who _)
  split
  ·exact k (ZQd c who m)
  ·exact k (ZXX c _ _)
theorem ZZl {S:DS} {who seq:Int} {m:Msg} (h:ZAb S):ZAb (doD S who seq m).1∧ZAf S (doD S who seq m).1:=by
 have:=ZYN (c:=ZHA S) (who:=who) (m:=m) h
 unfold doD
 split<;>exact this
theorem ZFG {S T:DS} (h:ZAb S) (q:ZB8 S T):ZAb T∧ZAf S T:=by
 have e:=q.rest
 have hs:=q.books
 generalize T.books=bs at*
 generalize T.quotes=qs at*
 subst e
 refine ⟨fun b hb=>?_,rfl,rfl,hs.1,rfl⟩
 obtain ⟨k,hk⟩:=List.getElem?_of_mem hb
 obtain ⟨x,hx,hsub⟩:=hs.2 k b hk
 exact (h x (List.mem_of_getElem? hx)).sub hsub
theorem ZX0 {S T:DS} (h:ZAb S) (a:ZDX {S with now:=IntKind.i64.wrap (S.now+1)} T):ZAb T∧ZAf S T:=
 ⟨fun b hb=>by
   rw [a.books] at hb
   rw [a.parties]
   exact h b hb,a.parties,by rw [a.bonds],by rw [a.books],a.look⟩
theorem ZIk {who:Int}:∀ (os:List ZE) (st:List ZE×List Out),(os.foldl (ZDY who) st).1=(os.filter fun x=>x.Owner==who).foldl (fun l x=>ZBu l x.ID) st.1
 | [],st=>rfl
 | x::os,st=>by
   rw [List.foldl_cons,ZIk os]
   unfold ZDY
   by_cases e:x.Owner=who
   ·rw [if_pos e,List.filter_cons,if_pos (by simpa using e),List.foldl_cons]
   ·rw [if_neg e,List.filter_cons,if_neg (by simpa using e)]
theorem ZFD {who s:Int} {b:List ZE} {os:List Out} (hn:(b.map fun x=>x.ID).Nodup):∀ x∈(ZAK who s (b,os)).1,x.Side=s→x.Owner≠who:=by
 intro x hx hs ho
 unfold ZAK at hx
 rw [ZIk] at hx
 obtain ⟨h1,h2⟩:=ZGt _ _ hn x hx
 exact absurd rfl (h2 x (List.mem_filter.2 ⟨Z7.2 ⟨h1,hs⟩,by simpa using ho⟩))
theorem ZI4 {n who:Int} {b:List ZE} {os:List Out} (h:ZB3 n b):∀ x∈(ZAA who (b,os)).1,x.Owner≠who:=by
 intro x hx
 unfold ZAA at hx
 have hs1:=(ZBa who 1 (b,os)).1
 have h1:=ZFD (who:=who) (s:=1) (b:=b) (os:=os) h.ids
 have hn1:((ZAK who 1 (b,os)).1.map fun x=>x.ID).Nodup:=h.ids.sublist (hs1.map _)
 generalize ZAK who 1 (b,os)=st at*
 obtain ⟨b1,os1⟩:=st
 have hs2:=(ZBa who 2 (b1,os1)).1
 have h2:=ZFD (who:=who) (s:=2) (b:=b1) (os:=os1) hn1
 have hx1:x∈b1:=hs2.subset hx
 have hb:=(h.ok x (hs1.subset hx1)).1
 unfold Zs ZBK at hb
 simp only [Bool.and_eq_true,Bool.or_eq_true,beq_iff_eq,decide_eq_true_eq] at hb
 rcases hb.2.2.2.2.2.2.2 with e|e
 ·exact h1 x hx1 e
 ·exact h2 x hx e
def ZN1 (who:Int) (bs:List (List ZE)):Prop:=∀ b∈bs,∀ x∈b,x.Owner≠who
theorem ZSd {S:DS} (h:ZAb S) (who:Int):ZN1 who (ZAU S who).1.books:=fun b hb x hx=>by
 obtain ⟨k,hk⟩:=List.getElem?_of_mem hb
 obtain ⟨_,h2⟩:=ZNd (who:=who) (S:=S) (R:=fun b z=>∀ x∈z,x.Owner≠who) fun b hb os=>ZI4 (h b hb)
 obtain ⟨_,_,h3⟩:=h2 k b hk
 exact h3 x hx
theorem ZLf {who:Int} {a b:List (List ZE)} (h:ZN1 who a) (hs:ZEd a b):ZN1 who b:=fun y hy x hx=>by
 obtain ⟨k,hk⟩:=List.getElem?_of_mem hy
 obtain ⟨z,hz,hsub⟩:=hs.2 k y hk
 exact h z (List.mem_of_getElem? hz) x (hsub.subset hx)
def ZZt (x:Int) (o:Out):Int:=if o.Msg_Kind=20 then (if o.Msg_F_0=x then o.Msg_F_2 else 0) else if o.Msg_Kind=21 then (if o.Msg_F_0=x then o.Msg_F_1 else 0) else 0
def acc (x:Int) (os:List Out):Int:=(os.map (ZZt x)).sum
theorem ZK8 {N n k:Nat} (hN:N≤6500) (hn:n≤300) (hk:k≤1000000):81000*N+1000000*n+k≤1000000000:=by
 have h1:=Nat.mul_le_mul_left 81000 hN
 have h2:=Nat.mul_le_mul_left 1000000 hn
 omega
theorem ZN7 {A B:Nat} {x:LS} {bs:List Int} (h:LOk A B x) (hb:Zv bs) (hB:B+bs.length≤900000):(ZBN x bs).2.1.length+ZOs (ZBN x bs).1≤ZOs x+bs.length:=by
 have hall:Zv (x.held++bs):=fun b hb'=>(List.mem_append.1 hb').elim (h.held b) (hb b)
 have hfl:=ZJg hall
 have hfb:=ZF0 hall
 rw [List.length_append] at hfl
 have hhl:=h.hl
 have hk:=ZLm (A:=A) (B:=B) (s0:=x.s) (Zw (x.held++bs)).1 (k:=0) (st:=(x.s,x.out,[],false)) ⟨rfl,Nat.le_refl _,rfl,Nat.le_refl _,Nat.le_refl _,h.out,h.outs,Nat.le_refl _,fun f hf=>by cases hf⟩ hfb.1 h.wf (by omega)
 have hn:=hk.n
 unfold ZBN ZOs
 dsimp only
 omega
theorem ZRh {A B C:Nat} {ls:List LS} {i:Nat} {y:LS} (h:∀ x∈ls,LOk A B x) (hc:B≤C) (hy:LOk A C y):∀ x∈ls.set i y,LOk A C x:=fun x hx=>(List.mem_or_eq_of_mem_set hx).elim (fun hx=>(h x hx).mono (Nat.le_refl _) hc) fun e=>e▸hy
section
variable {v:VK} {S:VS} {h:Hp} {l:List Hp}
theorem ZSR {n t i:Nat} {kd:Int} {m:Sl} {g:Hp} {bs:List Int} (a:ZBA v S h l) (hg:g∈l) (r:Row (cI .u8) g m bs) (hb:Zv bs) (iv:ZKs n t S) (hn:n≤299) (ht:t+bs.length≤6500) (hi:i<S.ls.length)
 {Q:PUnit→Hp→Prop} (hq:∀ T h',ZBA v T h' l→ZKq S i S.ls[i] bs T→ZKs (n+1) (t+bs.length) T→T.ls.length=S.ls.length→Q ⟨⟩ h'):ZA TP 63 [Value.pointer v.p,ZCo.enc ⟨kd,(i:Int),m⟩] (ZW []) h Q:=by
 refine c63 (p1:=⟨kd,(i:Int),m⟩) ?_
 unfold F63
 dsimp only [ZR,VK.p]
 obtain ⟨N,ok,hpot⟩:=iv
 refine ZF (cd:=cSl) (x:=v.sl) a.ob (i:=1) rfl ?_
 obtain ⟨c,R,q,o1,hpq,w1,hld,cl⟩:=a.line hi
 refine hld ?_
 have hx:=ok.l _ (List.getElem_mem hi)
 have hxi:S.ls[i]?=some S.ls[i]:=List.getElem?_eq_getElem hi
 generalize hxe:S.ls[i]=x at*
 have hxl:=hx.hl
 have hxa:=hx.al
 have hN0:N≤6500:=by omega
 have hbig:=ZK8 (k:=0) hN0 (show n≤300 by omega) (Nat.zero_le _)
 have hbl:=ZRE hx hb (by omega)
 have hbp:=ZN7 hx hb (by omega)
 refine ZOf o1 w1 (g:=g) (by simp [hg]) r hx.held hb (by omega) (by omega) hx.wf (by omega) (by omega) fun sl d c2 h2 o2 w2 wd=>?_
 have w2:ZVQ q (ZBN x bs).1 c2:=w2
 have wd:Own ZS d sl (ZBN x bs).2.1:=wd
 have a2:=cl h2 c2 (d::l) _ (o2.pick [0,2,1] 3 (by decide) (by decide)) w2
 refine ZHK (o2.mem (by simp)) w2 ?_
 have hdn:((Zw (x.held++bs)).1.foldl ZAk (x.s,x.out,[],false)).2.2.2=(ZBN x bs).2.2:=rfl
 have hup:((Zw (x.held++bs)).1.foldl ZAk (x.s,x.out,[],false)).1.up=(ZBN x bs).1.s.up:=rfl
 unfold ZKq at hq
 generalize hbr:ZBN x bs=br at*
 obtain ⟨y,asks,dn⟩:=br
 dsimp only at*
 rw [hdn]
 have hps:=ZIv (y:=y) hxi
 have hok1:VOk N (81000*N+1000000*n) (t+bs.length+8*n) ⟨S.d,S.ls.set i y⟩:=⟨ok.w,ok.f,ZRh ok.l (by omega) (hbl.1.mono (Nat.le_refl _) (by omega)),by dsimp only; rw [List.length_set]; exact ok.n⟩
 have hlen1:(S.ls.set i y).length=S.ls.length:=List.length_set
 generalize hS1:(⟨S.d,S.ls.set i y⟩:VS)=S1 at*
 have hls1:S1.ls=S.ls.set i y:=by rw [←hS1]
 have hwl:=wd.1
 refine Zb (fun z h'=>∃ (j:Nat) (U:VS),z=(j:Int)∧j≤asks.length∧ZBA v U h' (d::l)∧VOk (N+j) (81000*(N+j)+1000000*n) (t+bs.length+8*n) U∧ZDv S1.ls U.ls∧(∀ W,ZGV (i:Int) U (asks.drop j) W→ZGV (i:Int) S1 asks W)) (fun z=>asks.length-z.toNat)
  ⟨0,S1,rfl,Nat.zero_le _,a2,hok1,ZDv.refl _,fun W hW=>hW⟩ ?_
 rintro J z h3 again ⟨j,U,rfl,hj,a3,ok3,lt3,as3⟩
 refine ZH (fun hlt=>?_) fun hge=>?_
 ·have hj':j<asks.length:=by omega
  have a0:asks[j]?=some asks[j]:=List.getElem?_eq_getElem hj'
  have hfr:=hbl.2.1 _ (List.getElem_mem hj')
  refine ZM wd.row (Int.natCast_nonneg j) (by omega) fun p hp=>ZO wd.row (a3.sub (by simp)) rfl hp (i:=j) a0 (by rfl) ?_
  have hdr:asks.drop j=asks[j]::asks.drop (j+1):=List.drop_eq_getElem_cons hj'
  generalize asks[j]=f at*
  refine ZF (cd:=Go.Eng.cP) (x:=v.k.p) a3.ob (i:=0) rfl ?_
  obtain ⟨R4,b4,cl4⟩:=a3.desk
  have hNj:N+j+1≤6500:=by omega
  have hlo:=ZIr (c:=ZHA U.d) (who:=(i:Int)) (m:=ZDH f) ok3.w
  have h00:(ZHA U.d).outs.length=0:=rfl
  refine ZJm (who:=(i:Int)) (seq:=f.Seq) (m:=ZDH f) b4 ok3.w (by omega) (by omega) fun s5 d5 h5 b5 w5=>?_
  have hdo:=ZXs (who:=(i:Int)) (seq:=f.Seq) (m:=ZDH f) ok3.w ok3.f (by omega) hfr.2 hfr.1
  have a5:=cl4 h5 (d5::d::l) _ (b5.perm (List.Perm.swap _ _ _))
  have hbj:=ZK8 (k:=200000) (show N+j≤6500 by omega) (show n≤300 by omega) (by omega)
  refine ZD7 (g:=d5) (N:=N+j+1) (A:=81000*(N+j)+1000000*n) (B:=t+bs.length+8*n) a5 (by simp) w5.row ⟨hdo.1,hdo.2.1,ok3.l,ok3.n⟩ (by omega) hdo.2.2.1 (by have:=hdo.2.2.2; omega) fun T h6 a6 tl ok6 hl6=>?_
  have tlt:=ZCU tl
  have tlt:ZDv U.ls T.ls:=tlt
  rw [ZAH (by omega)]
  refine again _ _ ⟨j+1,T,rfl,by omega,a6.drop,ok6.mono (by omega) (by have:=hdo.2.2.2; omega) (Nat.le_refl _),lt3.trans tlt,fun W hW=>as3 W ?_⟩ (by omega)
  rw [hdr]
  exact ZGV.cons tl hW
 ·have hje:j=asks.length:=by omega
  subst hje
  have as3:=as3 U (by rw [List.drop_length]; exact ZGV.nil)
  have hul:U.ls.length=S.ls.length:=by rw [lt3.1,hls1,hlen1]
  have hiu:i<U.ls.length:=by omega
  have hui:U.ls[i]?=some U.ls[i]:=List.getElem?_eq_getElem hiu
  have hNa:N+asks.length≤6500:=by omega
  have hpu:pot U.ls=pot (S.ls.set i y):=by rw [lt3.2.1,hls1]
  refine ZN (fun tt h'=>h'=h3∧(tt=true↔(dn=true∨(y.s.up=true∧U.ls[i].s.up=false)))) ?_ fun J2 hJ2=>?_
  ·rintro tt h' ⟨rfl,htt⟩
   refine ZD (fun e=>?_) fun e=>?_
   ·refine ZF (cd:=Go.Eng.cP) (x:=v.k.p) a3.ob (i:=0) rfl ?_
    obtain ⟨R4,b4,cl4⟩:=a3.desk
    refine Go.Proofs.YtkmniidiifpdgaaGreat.ZHV (who:=(i:Int)) b4 ok3.w (by omega) fun s5 d5 h5 b5 w5 _ hol=>?_
    have hgw:=ZLC (who:=(i:Int)) ok3.w
    have hgf:=ZIV (who:=(i:Int)) ok3.w ok3.f
    have a5:=cl4 h5 (d5::d::l) _ (b5.perm (List.Perm.swap _ _ _))
    have hbj:=ZK8 (k:=200000) hNa (show n≤300 by omega) (by omega)
    refine ZD7 (g:=d5) (N:=N+asks.length) (A:=81000*(N+asks.length)+1000000*n) (B:=t+bs.length+8*n) a5 (by simp) w5.row ⟨hgw.1,hgf.1,ok3.l,ok3.n⟩ (by omega) hgf.2 (by have:=hgw.2; omega) fun T h6 a6 tl ok6 hl6=>?_
    refine hq T h6 a6.drop.drop ⟨U,U.ls[i],as3,hui,?_⟩ ⟨N+asks.length,ok6.mono (Nat.le_refl _) (by have:=hgw.2; omega) (by omega),?_⟩ (hl6.trans hul)
    ·rw [if_pos (htt.1 e)]; exact tl
    ·have:=(ZCU tl).2.1
     have this:pot T.ls=pot U.ls:=this
     omega
   ·have e:¬(dn=true∨(y.s.up=true∧U.ls[i].s.up=false)):=fun e2=>by rw [htt.2 e2] at e; cases e
    refine hq U _ a3.drop ⟨U,U.ls[i],as3,hui,?_⟩ ⟨N+asks.length,ok3.mono (Nat.le_refl _) (by omega) (by omega),by omega⟩ hul
    rw [if_neg e]
  ·refine ZD (fun e=>hJ2 _ _ ⟨rfl,?_⟩) fun e=>?_
   ·have e:dn=true:=e
    simp [e]
   ·have e:dn=false:=e
    refine ZD (fun e1=>?_) fun e1=>hJ2 _ _ ⟨rfl,?_⟩
    ·have e1:y.s.up=true:=e1
     obtain ⟨c6,R6,q6,o6,hq6,w6,_,_⟩:=a3.line hiu
     rw [hpq] at hq6
     cases hq6
     refine ZHK (o6.mem (by simp)) w6 (hJ2 _ _ ⟨rfl,?_⟩)
     rw [e,e1]
     simp
    ·have e1:y.s.up=false:=e1
     rw [e,e1]
     simp
end
theorem ZUg {A B:Nat} {x:LS} (h:LOk A B x):LOk A (B+1) (ZE0 x).1:=by
 have hb:=ZRX x.s
 have hg:=ZCh (ZCM x.s).2.1 ((ZCM x.s).1,x.out,false)
 dsimp only at hg
 have hl:=h.hl
 have h1:=h.sent
 have h2:=h.heard
 unfold ZE0 ZFL
 exact ⟨h.held,by dsimp only; rw [hg.2.2.1,hb.2.2.1]; omega,by dsimp only; rw [hg.2.1,hb.2.1]; exact h.wf,by dsimp only; rw [hg.2.1,hb.2.1]; exact h.al,by dsimp only; rw [hg.1,hb.1]; exact h.beat,by dsimp only; rw [hg.2.2.2.1]; omega,by dsimp only; rw [hg.2.2.2.2.1]; omega,hg.2.2.2.2.2.2 h.out,ZFO _ _ (ZQb x.s) h.outs⟩
theorem ZXJ {A B:Nat} {x:LS} (h:LOk A B x):LOk A B (ZLU x).1:=⟨h.held,h.hl,h.wf,h.al,h.beat,h.sent,h.heard,h.out,h.outs⟩
theorem ZKs.mono {n t n' t':Nat} {S:VS} (h:ZKs n t S) (hn:n≤n') (ht:t≤t'):ZKs n' t' S:=by
 obtain ⟨N,ok,hp⟩:=h
 exact ⟨N,ok.mono (Nat.le_refl _) (by omega) (by omega),by omega⟩
section
variable {v:VK} {S:VS} {h:Hp} {l:List Hp}
theorem ZPm {n t:Nat} (a:ZBA v S h l) (iv:ZKs n t S) (hn:n≤299) (ht:t≤6500) {Q:PUnit→Hp→Prop} (hq:∀ T h',ZBA v T h' l→ZRR S T→ZKs (n+1) t T→T.ls.length=S.ls.length→Q ⟨⟩ h'):ZA TP 61 [Value.pointer v.p] (ZW []) h Q:=by
 refine c61 ?_
 unfold F61
 dsimp only [ZR,VK.p]
 obtain ⟨N,ok,hpot⟩:=iv
 have hN0:N≤6500:=by omega
 have h8:=ok.n
 have hbig:=ZK8 (k:=1000000) hN0 (show n≤300 by omega) (Nat.le_refl _)
 refine ZF (cd:=Go.Eng.cP) (x:=v.k.p) a.ob (i:=0) rfl ?_
 obtain ⟨R,b,cl⟩:=a.desk
 refine ZFw b ok.w ok.f (by omega) fun d s outs dd h1 b1 w1 ag wk fk qu oo hlen=>?_
 have a1:=cl h1 (dd::l) d (b1.perm (List.Perm.swap _ _ _))
 refine ZD7 (g:=dd) (N:=N) (A:=81000*N+1000000*n) (B:=t+8*n) a1 (by simp) w1.row ⟨wk,fk,ok.l,ok.n⟩ (by omega) oo (by omega) fun U h2 a2 tl ok2 hl2=>?_
 have tll:=ZCU tl
 have hpu:pot U.ls=pot S.ls:=tll.2.1
 have hl2:U.ls.length=S.ls.length:=hl2
 have a2:=a2.drop
 refine ZF (cd:=cSl) (x:=v.sl) a2.ob (i:=1) rfl ?_
 have hvl:=a2.len
 refine Zb (fun z h'=>∃ (j:Nat) (W:VS),z=(j:Int)∧j≤S.ls.length∧ZBA v W h' l∧VOk N (81000*N+1000000*n+100000+81000*j) (t+8*n+j) W∧ZDg U j W∧pot W.ls=pot S.ls∧W.ls.length=S.ls.length) (fun z=>S.ls.length-z.toNat)
  ⟨0,U,rfl,Nat.zero_le _,a2,ok2.mono (Nat.le_refl _) (by omega) (Nat.le_refl _),ZDg.zero,hpu,hl2⟩ ?_
 rintro J z h3 again ⟨j,W,rfl,hj,a3,ok3,ln3,hp3,hl3⟩
 refine ZH (fun hlt=>?_) fun hge=>?_
 ·have hj':j<W.ls.length:=by omega
  rw [ZAH (by omega)]
  refine ZN (fun _ h'=>∃ W':VS,ZBA v W' h' l∧VOk N (81000*N+1000000*n+100000+81000*(j+1)) (t+8*n+(j+1)) W'∧ZDg U (j+1) W'∧pot W'.ls=pot S.ls∧W'.ls.length=S.ls.length) ?_ fun J2 hJ2=>?_
  ·rintro _ h' ⟨W',a',ok',ln',hp',hl'⟩
   exact again _ _ ⟨j+1,W',rfl,by omega,a',ok',ln',hp',hl'⟩ (by omega)
  ·obtain ⟨c4,R4,q,o4,_,w4,hld,cl4⟩:=a3.line hj'
   refine hld ?_
   have hxi:W.ls[j]?=some W.ls[j]:=List.getElem?_eq_getElem hj'
   have hx:=ok3.l _ (List.getElem_mem hj')
   generalize W.ls[j]=x at*
   have hx1:=hx.sent
   have hx2:=hx.heard
   refine ZSP o4 w4 hx.beat (by omega) (by omega) fun c5 h5 o5 w5=>?_
   have w5:ZVQ q (ZE0 x).1 c5:=w5
   have a5:=cl4 h5 c5 l _ o5 w5
   have hps:=ZIv (y:=(ZE0 x).1) hxi
   have hpe:ZOs (ZE0 x).1=ZOs x:=rfl
   have hset:(W.ls.set j (ZE0 x).1).length=W.ls.length:=List.length_set
   have hls:=ZRh (i:=j) (C:=t+8*n+(j+1)) ok3.l (by omega) ((ZUg hx).mono (Nat.le_refl _) (by omega))
   have hdn:(ZFL x.s x.out).2.2=(ZE0 x).2:=rfl
   rw [hdn]
   refine ZD (fun e=>?_) fun e=>?_
   ·have e:(ZE0 x).2=true:=e
    refine ZF (cd:=Go.Eng.cP) (x:=v.k.p) a5.ob (i:=0) rfl ?_
    obtain ⟨R6,b6,cl6⟩:=a5.desk
    refine Go.Proofs.YtkmniidiifpdgaaGreat.ZHV (who:=(j:Int)) b6 ok3.w (by omega) fun s7 d7 h7 b7 w7 _ hol=>?_
    have hgw:=ZLC (who:=(j:Int)) ok3.w
    have hgf:=ZIV (who:=(j:Int)) ok3.w ok3.f
    have a7:=cl6 h7 (d7::l) _ (b7.perm (List.Perm.swap _ _ _))
    refine ZD7 (g:=d7) (N:=N) (A:=81000*N+1000000*n+100000+81000*j) (B:=t+8*n+(j+1)) a7 (by simp) w7.row ⟨hgw.1,hgf.1,hls,by dsimp only; omega⟩ (by omega) hgf.2 (by have:=hgw.2; omega) fun T h8 a8 tl8 ok8 hl8=>?_
    have tlr:=ZCU tl8
    have hp8:pot T.ls=pot (W.ls.set j (ZE0 x).1):=tlr.2.1
    have hl8:T.ls.length=(W.ls.set j (ZE0 x).1).length:=hl8
    exact hJ2 _ _ ⟨T,a8.drop,ok8.mono (Nat.le_refl _) (by have:=hgw.2; omega) (Nat.le_refl _),ZDg.down ln3 hxi e tl8,by omega,by omega⟩
   ·have e:(ZE0 x).2=false:=e
    exact hJ2 _ _ ⟨_,a5,⟨ok3.w,ok3.f,fun y hy=>(hls y hy).mono (by omega) (Nat.le_refl _),by dsimp only; omega⟩,ZDg.stay ln3 hxi e,by dsimp only; omega,by dsimp only; omega⟩
 ·have hje:j=S.ls.length:=by omega
  subst hje
  exact hq W h3 a3 ⟨d,outs,U,ag,qu,tl,ln3⟩ ⟨N,ok3.mono (Nat.le_refl _) (by omega) (by omega),by omega⟩ hl3
theorem ZQl {n t:Nat} {p1:ZCo.T} {g:Hp} {bs:List Int} (a:ZBA v S h l) (hg:g∈l) (r:Row (cI .u8) g p1.B bs) (hb:Zv bs) (iv:ZKs n t S) (hn:n≤299) (ht:t+bs.length≤6500)
 {Q:Bool→Hp→Prop} (hq:∀ T h' b,ZBA v T h' l→DoR S p1.Kind p1.Who bs T b→ZKs (n+1) (t+bs.length) T→T.ls.length=S.ls.length→Q b h'):ZA TP 25 [Value.pointer v.p,ZCo.enc p1] cB h Q:=by
 refine c25 (p1:=p1) ?_
 unfold F25
 unfold DoR at hq
 refine ZQ rfl ?_
 have iv':ZKs (n+1) (t+bs.length) S:=iv.mono (by omega) (by omega)
 refine ZD (fun e=>?_) fun e=>?_
 ·have e:p1.Kind=2:=by simpa using e
  refine ZPm a iv hn (by omega) fun T h' a' tr iv2 hl'=>?_
  exact hq T h' true a' (by rw [if_pos e]; exact ⟨rfl,tr⟩) (iv2.mono (Nat.le_refl _) (by omega)) hl'
 have e2:p1.Kind≠2:=by simpa using e
 refine ZMv a ?_
 refine ZD (fun e=>?_) fun e=>?_
 ·have e:¬(0≤p1.Who∧p1.Who<(S.ls.length:Int)):=by simpa only [Bool.not_eq_true',decide_eq_false_iff_not] using e
  exact hq S h false a (by rw [if_neg e2,if_pos e]; exact ⟨rfl,rfl⟩) iv' rfl
 have ew:0≤p1.Who∧p1.Who<(S.ls.length:Int):=by simpa using e
 have hwn:¬¬(0≤p1.Who∧p1.Who<(S.ls.length:Int)):=fun h=>h ew
 refine ZD (fun e=>?_) fun e=>?_
 ·have ek:p1.Kind=1:=by simpa using e
  obtain ⟨kd,w,m⟩:=p1
  dsimp only at*
  obtain ⟨i,rfl⟩:=Int.eq_ofNat_of_zero_le ew.1
  have hi:i<S.ls.length:=by omega
  refine ZSR (kd:=kd) (m:=m) a hg r hb iv hn ht hi fun T h' a' tr iv2 hl'=>?_
  exact hq T h' true a' (by rw [if_neg e2,if_neg hwn,if_pos ek]; exact ⟨rfl,S.ls[i],List.getElem?_eq_getElem hi,tr⟩) iv2 hl'
 have e1:p1.Kind≠1:=by simpa using e
 refine ZD (fun e=>?_) fun e=>?_
 ·have ek:p1.Kind=3:=by simpa using e
  obtain ⟨kd,w,m⟩:=p1
  dsimp only at*
  obtain ⟨i,rfl⟩:=Int.eq_ofNat_of_zero_le ew.1
  have hi:i<S.ls.length:=by omega
  obtain ⟨N,ok,hpot⟩:=iv
  have hbig:=ZK8 (k:=1000000) (show N≤6500 by omega) (show n≤300 by omega) (Nat.le_refl _)
  dsimp only [ZR,VK.p]
  refine ZF (cd:=cSl) (x:=v.sl) a.ob (i:=1) rfl ?_
  obtain ⟨c4,R4,q,o4,_,w4,hld,cl4⟩:=a.line hi
  refine hld ?_
  have hxi:S.ls[i]?=some S.ls[i]:=List.getElem?_eq_getElem hi
  have hx:=ok.l _ (List.getElem_mem hi)
  generalize S.ls[i]=x at*
  refine ZT3 o4 w4 fun c5 h5 o5 w5=>?_
  have w5:ZVQ q (ZLU x).1 c5:=w5
  have a5:=cl4 h5 c5 l _ o5 w5
  have hps:=ZIv (y:=(ZLU x).1) hxi
  have hpe:ZOs (ZLU x).1=ZOs x:=rfl
  have hset:(S.ls.set i (ZLU x).1).length=S.ls.length:=List.length_set
  have hls:=ZRh (i:=i) ok.l (Nat.le_refl _) (ZXJ hx)
  have hdn:(ZLl x.s).2=(ZLU x).2:=rfl
  have hn8:=ok.n
  rw [hdn]
  have hR:∀ T,ZVo S i x T→(if kd=2 then true=true∧ZRR S T else if ¬(0≤(i:Int)∧(i:Int)<(S.ls.length:Int)) then true=false∧T=S else if kd=1 then true=true∧∃ x,S.ls[(i:Int).toNat]?=some x∧ZKq S (i:Int).toNat x bs T else if kd=3 then true=true∧∃ x,S.ls[(i:Int).toNat]?=some x∧ZVo S (i:Int).toNat x T else true=false∧T=S):=fun T hT=>by
   rw [if_neg e2,if_neg hwn,if_neg e1,if_pos ek]
   exact ⟨rfl,x,hxi,hT⟩
  refine ZD (fun e=>?_) fun e=>?_
  ·have e:(ZLU x).2=true:=e
   refine ZF (cd:=Go.Eng.cP) (x:=v.k.p) a5.ob (i:=0) rfl ?_
   obtain ⟨R6,b6,cl6⟩:=a5.desk
   refine Go.Proofs.YtkmniidiifpdgaaGreat.ZHV (who:=(i:Int)) b6 ok.w (by omega) fun s7 d7 h7 b7 w7 _ hol=>?_
   have hgw:=ZLC (who:=(i:Int)) ok.w
   have hgf:=ZIV (who:=(i:Int)) ok.w ok.f
   have a7:=cl6 h7 (d7::l) _ (b7.perm (List.Perm.swap _ _ _))
   refine ZD7 (g:=d7) (N:=N) (A:=81000*N+1000000*n) (B:=t+8*n) a7 (by simp) w7.row ⟨hgw.1,hgf.1,hls,by dsimp only; omega⟩ (by omega) hgf.2 (by have:=hgw.2; omega) fun T h8 a8 tl8 ok8 hl8=>?_
   have tlr:=ZCU tl8
   have hp8:pot T.ls=pot (S.ls.set i (ZLU x).1):=tlr.2.1
   have hl8:T.ls.length=(S.ls.set i (ZLU x).1).length:=hl8
   refine hq T h8 true a8.drop (hR T ?_) ⟨N,ok8.mono (Nat.le_refl _) (by have:=hgw.2; omega) (by omega),by omega⟩ (by omega)
   unfold ZVo
   rw [if_pos e]
   exact tl8
  ·have e:(ZLU x).2=false:=e
   refine hq _ h5 true a5 (hR _ ?_) ⟨N,VOk.mono ⟨ok.w,ok.f,hls,by dsimp only; omega⟩ (Nat.le_refl _) (by omega) (by omega),by dsimp only; omega⟩ hset
   unfold ZVo
   rw [if_neg (by rw [e]; simp)]
 have e3:p1.Kind≠3:=by simpa using e
 exact hq S h false a (by rw [if_neg e2,if_neg hwn,if_neg e1,if_neg e3]; exact ⟨rfl,rfl⟩) iv' rfl
end
def ZHz:Bond:=⟨5,10,10,100,5,500,false⟩
def ZEA:Bond:=⟨1,1,1,1000,1,1000,false⟩
def ZD2:List Z3:=[⟨1,12,0⟩,⟨1,4,0⟩,⟨2,0,100000⟩,⟨2,0,3000⟩,⟨3,0,0⟩]
def ZA9 (w:Int):List Bond×List Z3×Int×Int:=
 if w=1 then ([ZEA],ZD2,1,50) else if w=2 then ([ZEA,ZHz],ZD2,3,4) else if w=3 then ([ZHz,ZEA],ZD2++[⟨1,12,0⟩,⟨2,0,0⟩],3,50) else ([ZHz,ZEA],ZD2,3,50)
theorem ZHn (w:Int):ZCt (ZA9 w).1 (ZA9 w).2.1 (ZA9 w).2.2.1 (ZA9 w).2.2.2=true:=by
 unfold ZA9
 split
 ·decide
 split
 ·decide
 split
 ·decide
 ·decide
section
variable {h:Hp} {l:List Hp}
theorem ZGa {way:Int} (o:On h l) {Q:ZDr→Hp→Prop}
 (hq:∀ sb sp gb gp h',On h' (gb::gp::l)→Row Z8 gb sb (ZA9 (ZCR .i64 way 3)).1→Row Z0 gp sp (ZA9 (ZCR .i64 way 3)).2.1→Q ⟨sb,sp,(ZA9 (ZCR .i64 way 3)).2.2.1,(ZA9 (ZCR .i64 way 3)).2.2.2⟩ h'):
 ZA TP 9 [Value.int .i64 way] ZAg h Q:=by
 refine c9 ?_
 unfold F9
 generalize ZCR .i64 way 3=w at*
 unfold ZA9 at hq
 refine ZI o fun k1 h1 o1=>ZI o1 fun k2 h2 o2=>?_
 have own2:Own Z0 (ob k2 (ZG Z0 ZD2) 108) ⟨some ⟨k2,0,none⟩,5,5⟩ ZD2:=ZBG (rest:=[]) (by rfl) rfl rfl
 refine ZN (fun x h'=>Q x h') (fun x h' hx=>hx) fun J hJ=>?_
 refine ZD (fun e=>?_) fun e=>?_
 ·have e:w=1:=by simpa using e
  rw [if_pos e] at hq
  refine ZI o2 fun k3 h3 o3=>hJ _ _ ?_
  exact hq ⟨some ⟨k3,0,none⟩,1,1⟩ ⟨some ⟨k2,0,none⟩,5,5⟩ _ _ h3 (o3.pick [0,1] 3 (by decide) (by decide)) (Zf (by rfl) rfl) (Zf (by rfl) rfl)
 have e1:¬w=1:=by simpa using e
 rw [if_neg e1] at hq
 refine ZD (fun e=>?_) fun e=>?_
 ·have e:w=2:=by simpa using e
  rw [if_pos e] at hq
  refine ZI o2 fun k3 h3 o3=>hJ _ _ ?_
  exact hq ⟨some ⟨k3,0,none⟩,2,2⟩ ⟨some ⟨k2,0,none⟩,5,5⟩ _ _ h3 (o3.pick [0,1] 3 (by decide) (by decide)) (Zf (by rfl) rfl) (Zf (by rfl) rfl)
 have e2:¬w=2:=by simpa using e
 rw [if_neg e2] at hq
 refine ZD (fun e=>?_) fun e=>?_
 ·have e:w=3:=by simpa using e
  rw [if_pos e] at hq
  refine ZI o2 fun k3 h3 o3=>?_
  refine ZV (cd:=Z0) (g:=ob k3 (ZG Z0 [⟨1,12,0⟩,⟨2,0,0⟩]) 108) (s:=⟨some ⟨k2,0,none⟩,5,5⟩) (t:=⟨some ⟨k3,0,none⟩,2,2⟩) (xs:=ZD2) (ys:=[⟨1,12,0⟩,⟨2,0,0⟩]) (o3.pick [1,0,2] 3 (by decide) (by decide)) rfl own2 (by decide) (Zf (by rfl) rfl) (o3.get (i:=0) rfl) (by decide) fun d4 p n m h4 o4 w4=>hJ _ _ ?_
  exact hq ⟨some ⟨k1,0,none⟩,2,2⟩ ⟨p,n,m⟩ _ _ h4 (o4.pick [2,0] 3 (by decide) (by decide)) (Zf (by rfl) rfl) w4.row
 have e3:¬w=3:=by simpa using e
 rw [if_neg e3] at hq
 exact hJ _ _ (hq ⟨some ⟨k1,0,none⟩,2,2⟩ ⟨some ⟨k2,0,none⟩,5,5⟩ _ _ h2 (o2.pick [1,0] 2 (by decide) (by decide)) (Zf (by rfl) rfl) (Zf (by rfl) rfl))
def Zm (f:ZP):List Int:=ZAz (ZAQ f)
theorem ZAa {f:ZP} (h:wfF f):Zv (Zm f):=ZMY (ZDU f) (ZCT h)
theorem ZBD {f:ZP} (h:wfF f):(Zm f).length≤86:=by
 have:=ZCT h
 unfold Zm
 rw [ZEC]
 omega
theorem ZM7 {p:Sl} {g:Hp} {f:ZP} (o:On h l) (hg:g∈l) (r:Row ZS g p [f]) (hw:wfF f) {Q:Sl→Hp→Prop} (hq:∀ s d h',On h' (d::l)→Own (cI .u8) d s (Zm f)→Q s h'):ZA TP 68 [Value.slice p.a p.len p.cap] cSl h Q:=by
 refine c68 ?_
 unfold F68
 have hl:p.len=1:=r.1
 have hb:=ZCT hw
 refine Zb (fun z h'=>(z=(⟨none,0,0⟩,0)∧h'=h)∨∃ s d,z=(s,1)∧On h' (d::l)∧Own (cI .u8) d s (Zm f)) (fun z=>1-z.2.toNat) (.inl ⟨rfl,rfl⟩) ?_
 rintro J z h1 again (⟨rfl,rfl⟩|⟨s,d,rfl,o1,w1⟩)
 ·dsimp only
  refine ZH (fun _=>?_) fun hge=>absurd (show (0:Int)<(p.len:Int) by omega) hge
  refine ZM r (by decide) (by simp) fun q hq'=>ZO r (o.mem hg) rfl hq' (i:=0) rfl (by rfl) ?_
  refine ZOy o hw fun s2 d2 h2 o2 w2=>?_
  refine ZTt (body:=ZAQ f) o2 (g:=d2) (by simp) w2.row (ZDU f) (by omega) (fun h80=>absurd h80 (by omega)) fun _ s3 d3 h3 o3 w3=>?_
  have o3':On h3 (Hp.emp::d3::l):=(o3.pick [0] 2 (by decide) (by decide)).emp
  refine ZV (cd:=cI .u8) (g:=d3) (s:=⟨none,0,0⟩) (t:=s3) (xs:=[]) (ys:=ZAz (ZAQ f)) o3' rfl (Own.nil _) (by decide) w3.row (o3.get (i:=0) rfl) ?_ fun d4 p4 n4 m4 h4 o4 w4=>?_
  ·rw [ZEC]
   exact Nat.le_trans (Nat.mul_le_mul_right _ (show _≤100 by simp only [List.length_nil]; omega)) (by decide)
  ·refine again _ _ (.inr ⟨⟨p4,n4,m4⟩,d4,rfl,o4.pick [0] 2 (by decide) (by decide),?_⟩) (by show 1-(IntKind.i64.wrap (0+1)).toNat<1-(0:Int).toNat; decide)
   rw [List.nil_append] at w4
   exact w4
 ·dsimp only
  refine ZH (fun hlt=>absurd hlt (by omega)) fun _=>?_
  exact hq s d h1 o1 w1
theorem ZGZ:I64 1:=⟨by decide,by decide⟩
def onF (n:Int):ZP:=mkF 0 (mkM 1 [n])
theorem ZCG {s:Int} {m:Msg} (hs:I64 s) (hm:ZDp m):wfF (mkF s m):=by
 obtain ⟨h0,h1,h2,h3,h4,h5,h6⟩:=hm
 unfold wfF
 intro n hn
 simp only [mkF,ZDH,fs,List.mem_cons,List.not_mem_nil,or_false] at hn
 rcases hn with rfl|rfl|rfl|rfl|rfl|rfl|rfl|rfl<;>assumption
theorem ZGQ:wfF (onF 1):=ZCG ZF9 ⟨ZGZ,ZGZ,ZF9,ZF9,ZF9,ZF9,ZF9⟩
theorem ZSM (o:On h l) {Q:Sl→Hp→Prop} (hq:∀ s d h',On h' (d::l)→Own (cI .u8) d s (Zm (onF 1))→Q s h'):ZA TP 29 [Value.int .i64 1] cSl h Q:=by
 refine c29 ?_
 unfold F29
 refine ZI o fun k1 h1 o1=>?_
 refine ZKn (k:=1) (p:=⟨some ⟨k1,0,none⟩,1,1⟩) (ns:=[1]) (o1.get (i:=0) rfl) (Zf (by rfl) rfl) ?_
 refine ZI (vs:=ZG ZS [onF 1]) o1 fun k2 h2 o2=>?_
 refine ZM7 (p:=⟨some ⟨k2,0,none⟩,1,1⟩) (g:=ob k2 (ZG ZS [onF 1]) 161) (f:=onF 1) o2 (by simp) (Zf rfl rfl) ZGQ fun s d h3 o3 w3=>?_
 exact hq s d h3 (o3.pick [0] 3 (by decide) (by decide)) w3
theorem ZER {who seq:Int} {m:Msg} (o:On h l) (hs:I64 seq) (hm:ZDp m) {Q:Act→Hp→Prop} (hq:∀ s d h',On h' (d::l)→Own (cI .u8) d s (Zm (mkF seq m))→Q ⟨1,who,s⟩ h'):
 ZA TP 30 [Value.int .i64 who,Value.int .i64 seq,ZAY.enc m] ZCo h Q:=by
 refine c30 ?_
 unfold F30
 refine ZI (vs:=ZG ZS [mkF seq m]) o fun k2 h2 o2=>?_
 refine ZM7 (p:=⟨some ⟨k2,0,none⟩,1,1⟩) (g:=ob k2 (ZG ZS [mkF seq m]) 161) (f:=mkF seq m) o2 (by simp) (Zf rfl rfl) (ZCG hs hm) fun s d h3 o3 w3=>?_
 exact hq s d h3 (o3.pick [0] 2 (by decide) (by decide)) w3
def ZEi (l:List Hp) (xs:List Act) (bss:List (List Int)):Prop:=xs.length=bss.length∧∀ (i:Nat) (x:Act) (bs:List Int),xs[i]?=some x→bss[i]?=some bs→Zv bs∧∃ g∈l,Row (cI .u8) g x.B bs
theorem ZEi.mono {l l':List Hp} {xs:List Act} {bss:List (List Int)} (h:ZEi l xs bss) (hl:∀ g∈l,g∈l'):ZEi l' xs bss:=⟨h.1,fun i x bs h1 h2=>by
 obtain ⟨hb,g,hg,r⟩:=h.2 i x bs h1 h2
 exact ⟨hb,g,hl g hg,r⟩⟩
end
def ZZB:Msg:=mkM 9 [0,1,10,4,20]
def ZMw:Msg:=mkM 10 [1,100,10]
def ZY9:Msg:=mkM 12 [1]
def ZUJ:Msg:=mkM 14 [1]
def ZO5:List (Int×ZP):=[(0,onF 1),(2,onF 1),(0,mkF 1 ZZB),(2,mkF 1 ZMw),(0,mkF 2 ZY9),(2,mkF 2 ZUJ)]
theorem ZNw {k a b c d e f:Int} (h:∀ n∈[k,a,b,c,d,e,f],-1000≤n∧n≤1000):ZDp ⟨k,a,b,c,d,e,f⟩:=by
 have g:∀ n∈[k,a,b,c,d,e,f],I64 n:=fun n hn=>by have:=h n hn; exact ⟨by omega,by omega⟩
 exact ⟨g _ (by simp),g _ (by simp),g _ (by simp),g _ (by simp),g _ (by simp),g _ (by simp),g _ (by simp)⟩
theorem ZIy:ZDp ZZB:=ZNw (by decide)
theorem ZFB:ZDp ZMw:=ZNw (by decide)
theorem ZI9:ZDp ZY9:=ZNw (by decide)
theorem ZGj:ZDp ZUJ:=ZNw (by decide)
theorem ZKT:I64 2:=⟨by decide,by decide⟩
def ZE3 (s1 s2 s3 s4 s5 s6:Sl):List Act:=[⟨1,0,s1⟩,⟨1,2,s2⟩,⟨1,0,s3⟩,⟨1,2,s4⟩,⟨1,0,s5⟩,⟨1,2,s6⟩]
section
variable {h:Hp} {l:List Hp}
theorem ZW0 (o:On h l) {Q:Sl→Hp→Prop} (hq:∀ s d s1 s2 s3 s4 s5 s6 l' h',On h' (d::(l'++l))→Own ZCo d s (ZE3 s1 s2 s3 s4 s5 s6)→ZEi (l'++l) (ZE3 s1 s2 s3 s4 s5 s6) (ZO5.map fun x=>Zm x.2)→Q s h'):
 ZA TP 55 [Value.slice none 0 0] cSl h Q:=by
 refine c55 (p0:=⟨none,0,0⟩) ?_
 unfold F55
 refine ZSM o fun s1 d1 h1 o1 w1=>ZSM o1 fun s2 d2 h2 o2 w2=>?_
 refine ZI o2 fun k3 h3 o3=>?_
 refine ZKn (k:=9) (p:=⟨some ⟨k3,0,none⟩,5,5⟩) (ns:=[0,1,10,4,20]) (o3.get (i:=0) rfl) (Zf (by rfl) rfl) ?_
 refine ZER (who:=0) (seq:=1) (m:=ZZB) o3 ZGZ ZIy fun s3 d3 h4 o4 w3=>?_
 refine ZI o4 fun k5 h5 o5=>?_
 refine ZKn (k:=10) (p:=⟨some ⟨k5,0,none⟩,3,3⟩) (ns:=[1,100,10]) (o5.get (i:=0) rfl) (Zf (by rfl) rfl) ?_
 refine ZER (who:=2) (seq:=1) (m:=ZMw) o5 ZGZ ZFB fun s4 d4 h6 o6 w4=>?_
 refine ZI o6 fun k7 h7 o7=>?_
 refine ZKn (k:=12) (p:=⟨some ⟨k7,0,none⟩,1,1⟩) (ns:=[1]) (o7.get (i:=0) rfl) (Zf (by rfl) rfl) ?_
 refine ZER (who:=0) (seq:=2) (m:=ZY9) o7 ZKT ZI9 fun s5 d5 h8 o8 w5=>?_
 refine ZI (vs:=ZG ZCo [⟨1,0,s1⟩,⟨1,2,s2⟩,⟨1,0,s3⟩,⟨1,2,s4⟩,⟨1,0,s5⟩]) o8 fun k9 h9 o9=>?_
 have own9:Own ZCo (ob k9 (ZG ZCo [⟨1,0,s1⟩,⟨1,2,s2⟩,⟨1,0,s3⟩,⟨1,2,s4⟩,⟨1,0,s5⟩]) 87) ⟨some ⟨k9,0,none⟩,5,5⟩ [⟨1,0,s1⟩,⟨1,2,s2⟩,⟨1,0,s3⟩,⟨1,2,s4⟩,⟨1,0,s5⟩]:=ZBG (rest:=[]) (by rw [List.append_nil]) rfl rfl
 refine ZV (cd:=ZCo) (g:=Hp.emp) (s:=⟨some ⟨k9,0,none⟩,5,5⟩) (t:=⟨none,0,0⟩) (xs:=[⟨1,0,s1⟩,⟨1,2,s2⟩,⟨1,0,s3⟩,⟨1,2,s4⟩,⟨1,0,s5⟩]) (ys:=[]) o9 rfl own9 (by decide) ⟨rfl,rfl⟩ (fun b o h=>by cases h) (by simp [ZAI]) fun d10 p10 n10 m10 h10 o10 w10=>?_
 rw [List.append_nil] at w10
 refine ZI o10 fun k11 h11 o11=>?_
 refine ZKn (k:=14) (p:=⟨some ⟨k11,0,none⟩,1,1⟩) (ns:=[1]) (o11.get (i:=0) rfl) (Zf (by rfl) rfl) ?_
 refine ZER (who:=2) (seq:=2) (m:=ZUJ) o11 ZKT ZGj fun s6 d6 h12 o12 w6=>?_
 refine ZI (vs:=ZG ZCo [⟨1,2,s6⟩]) o12 fun k13 h13 o13=>?_
 refine ZV (cd:=ZCo) (g:=ob k13 (ZG ZCo [⟨1,2,s6⟩]) 87) (s:=⟨p10,n10,m10⟩) (t:=⟨some ⟨k13,0,none⟩,1,1⟩) (xs:=[⟨1,0,s1⟩,⟨1,2,s2⟩,⟨1,0,s3⟩,⟨1,2,s4⟩,⟨1,0,s5⟩]) (ys:=[⟨1,2,s6⟩]) (o13.pick [3,0,1] 4 (by decide) (by decide)) rfl w10 (by decide) (Zf rfl rfl) (o13.get (i:=0) rfl) (by simp [ZAI]) fun d14 p14 n14 m14 h14 o14 w14=>?_
 have w14:Own ZCo d14 ⟨p14,n14,m14⟩ (ZE3 s1 s2 s3 s4 s5 s6):=w14
 have o15:On h14 (d14::([d6,d5,d4,d3,d2,d1]++l)):=o14.pick [0,2,3,5,7,9,10] 11 (by decide) (by decide)
 refine hq ⟨p14,n14,m14⟩ d14 s1 s2 s3 s4 s5 s6 _ h14 o15 w14 ⟨rfl,fun i x bs hx hb=>?_⟩
 match i,hx,hb with
 | 0,hx,hb=>cases hx; cases hb; exact ⟨ZAa ZGQ,d1,by simp,w1.row⟩
 | 1,hx,hb=>cases hx; cases hb; exact ⟨ZAa ZGQ,d2,by simp,w2.row⟩
 | 2,hx,hb=>cases hx; cases hb; exact ⟨ZAa (ZCG ZGZ ZIy),d3,by simp,w3.row⟩
 | 3,hx,hb=>cases hx; cases hb; exact ⟨ZAa (ZCG ZGZ ZFB),d4,by simp,w4.row⟩
 | 4,hx,hb=>cases hx; cases hb; exact ⟨ZAa (ZCG ZKT ZI9),d5,by simp,w5.row⟩
 | 5,hx,hb=>cases hx; cases hb; exact ⟨ZAa (ZCG ZKT ZGj),d6,by simp,w6.row⟩
 | i+6,hx,hb=>simp [ZE3] at hx
end
def ZLL:List Int→List Msg→List ZP→List Msg
 | _,out,[]=>out
 | seen,out,f::fs=>if f.Seq=0∨f.Seq∈seen then ZLL seen out fs else if f.Seq≠(out.length+1:Nat) then out else ZLL (f.Seq::seen) (out++[ZDH f]) fs
theorem ZQJ (seen:List Int) (out:List Msg) (f:ZP) (fs:List ZP):ZLL seen out (f::fs)=if f.Seq=0∨f.Seq∈seen then ZLL seen out fs else if f.Seq≠(out.length+1:Nat) then out else ZLL (f.Seq::seen) (out++[ZDH f]) fs:=rfl
theorem ZTj (seen:List Int) (out:List Msg):ZLL seen out []=out:=rfl
theorem ZMz (n k:Int) (clk:Nat):∀ (L:List (Int×Bool×Nat)),(∀ e∈L,e.2.1=true)→ZPd (c:=cB) false n (L++[(k,true,clk)])=(ZPd (c:=cB) false n L||decide (n=k))
 | [],_=>by
   show (if n=k then true else false)=(false||decide (n=k))
   by_cases h:n=k<;>simp [h]
 | e::L,h=>by
   have ih:=ZMz n k clk L fun x hx=>h x (by simp [hx])
   have he:=h e (by simp)
   show (if n=e.1 then e.2.1 else ZPd (c:=cB) false n (L++[(k,true,clk)]))=((if n=e.1 then e.2.1 else ZPd (c:=cB) false n L)||decide (n=k))
   by_cases hn:n=e.1
   ·rw [if_pos hn,if_pos hn,he]; rfl
   ·rw [if_neg hn,if_neg hn,ih]
theorem ZGg (f:ZP) (hw:wfF f):Zw (Zm f)=([ZAQ f],[],0):=by
 have:=ZGI [ZAQ f] (fun b hb=>by rw [List.mem_singleton] at hb; subst hb; exact ZCT hw)
 simpa [Zm] using this
theorem ZUR {f:ZP} (hw:wfF f):ZOD (ZAQ f)=if okF f=true then (f,0) else (ZK0,2):=by
 cases h:okF f with
 | true=>rw [if_pos rfl]; exact ZF8 (ZEq hw h)
 | false=>
   rw [if_neg (by simp)]
   have:ZAQ f=[]:=List.length_eq_zero_iff.1 (ZHZ.2 h)
   rw [this]
   rfl
section
variable {h:Hp} {l:List Hp}
theorem ZMZ {p:Sl} {g G:Hp} {ss:List Sl} {fs:List ZP} (o:On h l) (hg:g∈l) (hG:G∈l) (r:Row cSl g p ss) (rr:ZD0 G ss (fs.map Zm)) (hw:∀ f∈fs,wfF f) (hl:fs.length≤100000)
 {Q:Sl→Hp→Prop} (hq:∀ s d h',On h' (d::l)→Own ZS d s (fs.filter okF)→Q s h'):ZA TP 71 [Value.slice p.a p.len p.cap] cSl h Q:=by
 refine c71 ?_
 unfold F71
 have hpl:=r.1
 have hsl:ss.length=fs.length:=by have:=ZCn.len rr; simpa using this
 refine ZSU o fun pf c1 h1 o1 w1=>?_
 refine Zb (fun z h'=>∃ (j:Nat) (s:Sl) (c d:Hp),z=(s,(j:Int))∧j≤fs.length∧On h' (c::d::l)∧ZGN pf [] 0 c 278∧Own ZS d s ((fs.take j).filter okF)) (fun z=>fs.length-z.2.toNat)
  ⟨0,⟨none,0,0⟩,c1,Hp.emp,rfl,Nat.zero_le _,o1.emp.swap,w1,Own.nil _⟩ ?_
 rintro J z h2 again ⟨j,s,c,d,rfl,hj,o2,w2,wd2⟩
 dsimp only
 refine ZH (fun hlt=>?_) fun hge=>?_
 ·have hj':j<fs.length:=by omega
  have hjs:j<ss.length:=by omega
  have a0:ss[j]?=some ss[j]:=List.getElem?_eq_getElem hjs
  have af:fs[j]?=some fs[j]:=List.getElem?_eq_getElem hj'
  have hwf:=hw _ (List.getElem_mem hj')
  have rj:Row (cI .u8) G ss[j] (Zm fs[j]):=by
   obtain ⟨b,hb,rb⟩:=ZCn.get rr j _ a0
   rw [List.getElem?_map,af] at hb
   simp only [Option.map_some,Option.some.injEq] at hb
   rw [hb]; exact rb
  have htk:(fs.take (j+1)).filter okF=(fs.take j).filter okF++[fs[j]].filter okF:=by
   rw [List.take_add_one,af,List.filter_append]; rfl
  generalize hs0:ss[j]=s0 at*
  generalize hf0:fs[j]=f at*
  rw [ZAH (by omega)]
  refine ZM r (Int.natCast_nonneg j) (by omega) fun q hq'=>ZO r (o2.mem (by simp [hg])) rfl hq' (i:=j) a0 (by rfl) ?_
  have hwl:=ZBD hwf
  refine ZJ1 (g:=G) (bs:=Zm f) o2 w2 (by simp [hG]) rj (by simp [Zv]) (ZAa hwf) (by simp only [List.length_nil]; omega) (Nat.zero_le _) fun s3 ss3 c3 r3 h3 o3 w3 ra3 rb3 cp3=>?_
  rw [List.nil_append,ZGg f hwf] at w3 rb3 cp3
  obtain ⟨s4,rfl,r4,hc4⟩:∃ s4,ss3=[s4]∧Row (cI .u8) r3 s4 (ZAQ f)∧(ZAQ f).length≤s4.cap:=by
   match ss3,rb3,cp3 with
   | [s4],⟨h1,_⟩,⟨h2,_⟩=>exact ⟨s4,rfl,h1,h2⟩
   | [],h1,_=>exact h1.elim
   | _::_::_,⟨_,h1⟩,_=>exact h1.elim
  have hl3:s3.len=1:=ra3.1
  have hb80:=ZCT hwf
  refine Zb (fun z h'=>∃ (i:Nat) (s:Sl) (c d:Hp),z=(s,(i:Int))∧i≤1∧On h' (c::d::r3::l)∧ZGN pf [] 0 c 278∧Own ZS d s (if i=0 then (fs.take j).filter okF else (fs.take (j+1)).filter okF)) (fun z=>1-z.2.toNat)
   ⟨0,s,c3,d,rfl,Nat.zero_le _,o3.pick [0,2,1] 3 (by decide) (by decide),w3,by rw [if_pos rfl]; exact wd2⟩ ?_
  rintro J2 z h4 again2 ⟨i,s,c,d,rfl,hi,o4,w4,wd4⟩
  dsimp only
  refine ZH (fun hlt2=>?_) fun hge2=>?_
  ·have hi0:i=0:=by omega
   subst hi0
   rw [if_pos rfl] at wd4
   rw [ZAH (by omega)]
   refine ZN (fun s h'=>∃ c d,On h' (c::d::r3::l)∧ZGN pf [] 0 c 278∧Own ZS d s ((fs.take (j+1)).filter okF)) ?_ fun J3 hJ3=>?_
   ·rintro s5 h5 ⟨c5,d5,o5,w5,wd5⟩
    exact again2 _ _ ⟨1,s5,c5,d5,rfl,Nat.le_refl _,o5,w5,by rw [if_neg (by decide)]; exact wd5⟩ (by show 1-((0+1:Nat):Int).toNat<1-((0:Nat):Int).toNat; decide)
   ·refine ZM ra3 (by decide) (by simp) fun q hq'=>ZO ra3 (o4.mem (by simp)) rfl hq' (i:=0) rfl (by rfl) ?_
    refine ZN4 o4 (g:=r3) (by simp) r4 (ZDU f) hc4 (by omega) fun h5 o5=>?_
    rw [ZUR hwf]
    by_cases hok:okF f=true
    ·rw [if_pos hok]
     rw [List.filter_cons,if_pos hok,List.filter_nil] at htk
     refine Zd rfl ?_
     refine ZI (vs:=ZG ZS [f]) o5 fun k6 h6 o6=>?_
     have hwl4:=wd4.1
     refine ZV (cd:=ZS) (g:=ob k6 (ZG ZS [f]) 161) (s:=s) (t:=⟨some ⟨k6,0,none⟩,1,1⟩) (ys:=[f]) (o6.pick [2,0,1,3] 4 (by decide) (by decide)) rfl wd4 (by decide) (Zf rfl rfl) (o6.get (i:=0) rfl) ?_ fun d7 p n m h7 o7 w7=>?_
     ·have h1:=List.length_filter_le okF (fs.take j)
      rw [List.length_take] at h1
      refine Nat.le_trans (Nat.mul_le_mul_right _ (show _≤200000 by rw [List.length_singleton]; omega)) (by decide)
     ·exact hJ3 _ _ ⟨c,d7,o7.pick [2,0,3] 4 (by decide) (by decide),w4,by rw [htk]; exact w7⟩
    ·rw [if_neg hok]
     rw [List.filter_cons,if_neg hok,List.filter_nil,List.append_nil] at htk
     refine ZQ rfl ?_
     exact hJ3 _ _ ⟨c,d,o5,w4,by rw [htk]; exact wd4⟩
  ·have hi1:i=1:=by omega
   subst hi1
   rw [if_neg (by decide)] at wd4
   exact again _ _ ⟨j+1,s,c,d,rfl,by omega,o4.pick [0,1] 3 (by decide) (by decide),w4,wd4⟩ (by show fs.length-((j+1:Nat):Int).toNat<fs.length-(j:Int).toNat; omega)
 ·have hje:j=fs.length:=by omega
  subst hje
  rw [List.take_length] at wd2
  exact hq s d h2 (o2.pick [1] 2 (by decide) (by decide)) wd2
theorem ZS2 {p:Sl} {g:Hp} {fs:List ZP} (o:On h l) (hg:g∈l) (r:Row ZS g p fs) (hl:fs.length≤100000)
 {Q:Sl→Hp→Prop} (hq:∀ s d h',On h' (d::l)→Own ZAY d s (ZLL [] [] fs)→Q s h'):ZA TP 72 [Value.slice p.a p.len p.cap] cSl h Q:=by
 refine c72 ?_
 unfold F72
 have hpl:=r.1
 intro k1 hk1
 have o1:On _ (Hp.one k1 (ZMb cB .i64 [] 0)::l):=o.new hk1 _
 refine ZN (fun s h'=>∃ d,On h' (d::l)∧Own ZAY d s (ZLL [] [] fs)) ?_ fun J1 hJ1=>?_
 ·rintro s h' ⟨d,o',w'⟩
  exact hq s d h' o' w'
 refine Zb (fun z h'=>∃ (j:Nat) (s:Sl) (L:List (Int×Bool×Nat)) (clk:Nat) (d:Hp) (seen:List Int) (out:List Msg),z=(s,(j:Int))∧j≤fs.length∧On h' (Hp.one k1 (ZMb cB .i64 L clk)::d::l)∧Own ZAY d s out∧
   (∀ n,ZPd (c:=cB) false n L=decide (n∈seen))∧(∀ e∈L,e.1∈seen∧e.2.1=true)∧ZLL [] [] fs=ZLL seen out (fs.drop j)∧out.length≤j) (fun z=>fs.length-z.2.toNat)
  ⟨0,⟨none,0,0⟩,[],0,Hp.emp,[],[],rfl,Nat.zero_le _,o1.emp.swap,Own.nil _,(fun n=>by simp [ZPd]),(fun e he=>by cases he),rfl,Nat.le_refl _⟩ ?_
 rintro J z h2 again ⟨j,s,L,clk,d,seen,out,rfl,hj,o2,w2,hget,hkeys,happ,hol⟩
 dsimp only
 have hsl:=w2.1
 have hmap:h2 k1=some (ZMb cB .i64 L clk):=o2.get (i:=0) rfl k1 _ (by simp [Hp.one])
 refine ZH (fun hlt=>?_) fun hge=>?_
 ·have hj':j<fs.length:=by omega
  have a0:fs[j]?=some fs[j]:=List.getElem?_eq_getElem hj'
  have hdr:fs.drop j=fs[j]::fs.drop (j+1):=List.drop_eq_getElem_cons hj'
  generalize fs[j]=f at*
  rw [hdr] at happ
  rw [ZQJ] at happ
  rw [ZAH (by omega),ZAH (by omega)]
  refine ZN (fun s h'=>∃ (L:List (Int×Bool×Nat)) (clk:Nat) (d:Hp) (seen:List Int) (out:List Msg),On h' (Hp.one k1 (ZMb cB .i64 L clk)::d::l)∧Own ZAY d s out∧
   (∀ n,ZPd (c:=cB) false n L=decide (n∈seen))∧(∀ e∈L,e.1∈seen∧e.2.1=true)∧ZLL [] [] fs=ZLL seen out (fs.drop (j+1))∧out.length≤j+1) ?_ fun J3 hJ3=>?_
  ·rintro s3 h3 ⟨L3,clk3,d3,seen3,out3,o3,w3,hg3,hk3,ha3,hl3⟩
   exact again _ _ ⟨j+1,s3,L3,clk3,d3,seen3,out3,rfl,by omega,o3,w3,hg3,hk3,ha3,hl3⟩ (by show fs.length-((j+1:Nat):Int).toNat<fs.length-(j:Int).toNat; omega)
  refine ZM r (Int.natCast_nonneg j) (by omega) fun q hq'=>ZO r (o2.mem (by simp [hg])) rfl hq' (i:=j) a0 (by rfl) ?_
  refine ZN (fun t h'=>h'=h2∧t=decide (f.Seq=0∨f.Seq∈seen)) ?_ fun J4 hJ4=>?_
  ·rintro t h3 ⟨rfl,rfl⟩
   refine ZH (fun hs=>?_) fun hs=>?_
   ·rw [if_pos hs] at happ
    exact hJ3 _ _ ⟨L,clk,d,seen,out,o2,w2,hget,hkeys,happ,by omega⟩
   ·rw [if_neg hs] at happ
    refine ⟨k1,L,clk,rfl,hmap,fun e he hne=>hs (.inr (by rw [hne]; exact (hkeys e he).1)),?_⟩
    have o4:=o2.upd (b:=k1) (ob:=ZMb cB .i64 L clk) (by simp [Hp.one]) (ZMb cB .i64 (L++[(f.Seq,true,clk)]) (clk+1))
    rw [ZHI] at o4
    refine ZD (fun e=>?_) fun e=>?_
    ·have e:f.Seq≠(out.length+1:Nat):=by
      have:f.Seq≠(s.len+1:Nat):=by simpa using e
      rwa [hsl] at this
     rw [if_pos e] at happ
     exact hJ1 _ _ ⟨d,o4.pick [1] 2 (by decide) (by decide),by rw [happ]; exact w2⟩
    ·have e:f.Seq=(out.length+1:Nat):=by
      have:f.Seq=(s.len+1:Nat):=by simpa using e
      rwa [hsl] at this
     rw [if_neg (fun h=>h e)] at happ
     refine ZI (vs:=ZG ZAY [ZDH f]) o4 fun k6 h6 o6=>?_
     refine ZV (cd:=ZAY) (g:=ob k6 (ZG ZAY [ZDH f]) 59) (s:=s) (t:=⟨some ⟨k6,0,none⟩,1,1⟩) (ys:=[ZDH f]) (o6.pick [2,0,1] 3 (by decide) (by decide)) rfl w2 (by decide) (Zf rfl rfl) (o6.get (i:=0) rfl) ?_ fun d7 p n m h7 o7 w7=>?_
     ·refine Nat.le_trans (Nat.mul_le_mul_right _ (show _≤200000 by rw [List.length_singleton]; omega)) (by decide)
     ·refine hJ3 _ _ ⟨L++[(f.Seq,true,clk)],clk+1,d7,f.Seq::seen,out++[ZDH f],o7.pick [2,0] 3 (by decide) (by decide),w7,fun n=>?_,fun e he=>?_,happ,by rw [List.length_append,List.length_singleton]; omega⟩
      ·rw [ZMz _ _ _ _ (fun e he=>(hkeys e he).2),hget]
       by_cases h1:n∈seen<;>by_cases h2:n=f.Seq<;>simp [h1,h2]
      ·rcases List.mem_append.1 he with he|he
       ·exact ⟨List.mem_cons_of_mem _ (hkeys e he).1,(hkeys e he).2⟩
       ·simp only [List.mem_singleton] at he
        subst he; simp
  ·refine ZD (fun e=>hJ4 _ _ ⟨rfl,?_⟩) fun e=>⟨k1,L,clk,rfl,hmap,hJ4 _ _ ⟨rfl,?_⟩⟩
   ·have e:f.Seq=0:=by simpa using e
    simp [e]
   ·have e:f.Seq≠0:=by simpa using e
    rw [hget]
    simp [e]
 ·have hje:j=fs.length:=by omega
  subst hje
  rw [List.drop_length,ZTj] at happ
  exact hJ1 _ _ ⟨d,o2.pick [1] 2 (by decide) (by decide),by rw [happ]; exact w2⟩
end
def ZJB (R:List (List Int)):List ZP:=R.flatMap fun b=>(Zw b).1.filterMap ZDq
theorem ZEl:∀ (fs:List ZP),(∀ f∈fs,wfF f)→ZJB (fs.map Zm)=fs.filter okF
 | [],_=>rfl
 | f::fs,h=>by
   have hf:=h f (by simp)
   have ih:=ZEl fs fun x hx=>h x (by simp [hx])
   unfold ZJB at ih ⊢
   rw [List.map_cons,List.flatMap_cons,ih,ZGg f hf,List.filter_cons]
   cases e:okF f with
   | true=>
     have hr:=ZEq hf e
     simp only [List.filterMap_cons,hr,List.filterMap_nil,if_true]
     rfl
   | false=>
     have hb:ZAQ f=[]:=List.length_eq_zero_iff.1 (ZHZ.2 e)
     have hr:ZDq []=none:=rfl
     simp only [hb,List.filterMap_cons,hr,List.filterMap_nil,Bool.false_eq_true,if_false]
     rfl
def clr (x:LS):LS:={x with out:=[]}
def ZES (T:VS) (j:Nat):VS:=⟨T.d,(T.ls.take j).map clr++T.ls.drop j⟩
def ZPe (a:List (List Int)) (x:LS):List (List Int):=a++x.out
def ZHy (R:List (List (List Int))) (T:VS) (j:Nat):List (List (List Int)):=(List.zipWith ZPe R T.ls).take j++R.drop j
inductive ZPZ:VS→List (List (List Int))→List (Int×Int×List Int)→VS→List (List (List Int))→Prop
 | nil {S:VS} {R:List (List (List Int))}:ZPZ S R [] S R
 | cons {S T U:VS} {R R':List (List (List Int))} {a:Int×Int×List Int} {la:List (Int×Int×List Int)} {b:Bool}:DoR S a.1 a.2.1 a.2.2 T b→ZPZ ⟨T.d,T.ls.map clr⟩ (List.zipWith ZPe R T.ls) la U R'→ZPZ S R (a::la) U R'
theorem ZXW {A B:Nat} {x:LS} (h:LOk A B x):LOk A B (clr x):=⟨h.held,h.hl,h.wf,h.al,h.beat,h.sent,h.heard,Nat.zero_le _,ZDT.nil⟩
theorem ZP8:∀ ls:List LS,pot (ls.map clr)=pot ls
 | []=>rfl
 | x::ls=>by
   have:=ZP8 ls
   unfold pot at*
   simp only [List.map_cons,List.sum_cons]
   rw [this]
   rfl
theorem ZKs.clr {n t:Nat} {S:VS} (h:ZKs n t S):ZKs n t ⟨S.d,S.ls.map clr⟩:=by
 obtain ⟨N,ok,hp⟩:=h
 refine ⟨N,⟨ok.w,ok.f,fun x hx=>?_,by dsimp only; rw [List.length_map]; exact ok.n⟩,by dsimp only; rw [ZP8]; exact hp⟩
 obtain ⟨y,hy,rfl⟩:=List.mem_map.1 hx
 exact ZXW (ok.l y hy)
theorem ZQK {T:VS} {j:Nat} (hj:j≤T.ls.length):(ZES T j).ls.length=T.ls.length:=by
 unfold ZES
 simp only [List.length_append,List.length_map,List.length_take,List.length_drop]
 omega
theorem ZTc {T:VS} {j:Nat} (hj:j<T.ls.length):(ZES T j).ls[j]?=some T.ls[j]:=by
 unfold ZES
 dsimp only
 rw [List.getElem?_append_right (by simp; omega)]
 simp only [List.length_map,List.length_take,List.getElem?_drop]
 rw [show j+(j-min j T.ls.length)=j by omega]
 exact List.getElem?_eq_getElem hj
theorem ZFI {α:Type} {l:List α} {j:Nat} {x:α} (h:l[j]?=some x):l.take (j+1)=l.take j++[x]:=by
 rw [List.take_add_one,h]; rfl
theorem ZQt {T:VS} {j:Nat} (hj:j<T.ls.length):(ZES T j).ls.set j (clr T.ls[j])=(ZES T (j+1)).ls:=by
 unfold ZES
 dsimp only
 have h1:((T.ls.take j).map clr).length=j:=by simp; omega
 rw [List.drop_eq_getElem_cons hj,List.set_append_right _ _ (by omega),h1,Nat.sub_self,List.set_cons_zero,ZFI (List.getElem?_eq_getElem hj),List.map_append,List.append_assoc]
 rfl
theorem ZYo {R:List (List (List Int))} {ls:List LS} {j:Nat} {a:List (List Int)} {x:LS} (h1:R[j]?=some a) (h2:ls[j]?=some x):(List.zipWith ZPe R ls)[j]?=some (ZPe a x):=by
 rw [List.getElem?_zipWith,h1,h2]
theorem ZTx {R:List (List (List Int))} {T:VS} {j:Nat} (hl:R.length=T.ls.length) (hj:j<R.length):(ZHy R T j)[j]?=some R[j]:=by
 unfold ZHy
 rw [List.getElem?_append_right (by simp; omega)]
 simp only [List.length_take,List.length_zipWith,List.getElem?_drop]
 rw [show j+(j-min j (min R.length T.ls.length))=j by omega]
 exact List.getElem?_eq_getElem hj
theorem ZSa {R:List (List (List Int))} {T:VS} {j:Nat} (hl:R.length=T.ls.length) (hj:j<R.length) (hj2:j<T.ls.length):(ZHy R T j).set j (ZPe R[j] T.ls[j])=ZHy R T (j+1):=by
 unfold ZHy
 have h1:((List.zipWith ZPe R T.ls).take j).length=j:=by simp; omega
 rw [List.drop_eq_getElem_cons hj,List.set_append_right _ _ (by omega),h1,Nat.sub_self,List.set_cons_zero,ZFI (ZYo (List.getElem?_eq_getElem hj) (List.getElem?_eq_getElem hj2)),List.append_assoc]
 rfl
section
variable {v:VK} {S:VS} {h:Hp} {l:List Hp}
theorem ZBA.open (a:ZBA v S h l):∃ V,On h (V::l)∧∀ h' l',On h' (V::l')→ZBA v S h' l':=by
 obtain ⟨dL,D,ps,cs,o,w⟩:=a
 have o1:On h ((Go.Eng.ob v.b (ZBe v) 152::dL::D::cs)++l):=o
 obtain ⟨o2,o3⟩:=On.joined o1
 exact ⟨_,o2,fun h' l' o'=>⟨dL,D,ps,cs,o'.split o3,w⟩⟩
def ZHo (sls:List Sl) (ds:List Hp) (G:Hp) (R:List (List (List Int))):Prop:=
 sls.length=R.length∧ds.length=R.length∧∀ (i:Nat) (s:Sl) (d:Hp) (r:List (List Int)),sls[i]?=some s→ds[i]?=some d→R[i]?=some r→∃ ss,Own cSl d s ss∧ZD0 G ss r
theorem ZCn.append {α β:Type} {R:α→β→Prop}:∀ {a:List α} {b:List β} {c:List α} {d:List β},ZCn R a b→ZCn R c d→ZCn R (a++c) (b++d)
 | [],[],c,d,_,h=>h
 | x::a,y::b,c,d,⟨h1,h2⟩,h=>⟨h1,ZCn.append h2 h⟩
theorem ZHo.set {sls:List Sl} {ds:List Hp} {G G':Hp} {R:List (List (List Int))} (w:ZHo sls ds G R) (hG:G.sub G') {j:Nat} {s:Sl} {d:Hp} {r:List (List Int)} {ss:List Sl} (hj:j<R.length) (hs:Own cSl d s ss) (hr:ZD0 G' ss r):ZHo (sls.set j s) (ds.set j d) G' (R.set j r):=by
 obtain ⟨h1,h2,h3⟩:=w
 refine ⟨by simpa using h1,by simpa using h2,fun i s' d' r' e1 e2 e3=>?_⟩
 by_cases hij:j=i
 ·subst hij
  rw [List.getElem?_set_self (by omega)] at e1 e2 e3
  cases e1; cases e2; cases e3
  exact ⟨ss,hs,hr⟩
 ·rw [List.getElem?_set_ne hij] at e1 e2 e3
  obtain ⟨ss',w1,w2⟩:=h3 i s' d' r' e1 e2 e3
  exact ⟨ss',w1,w2.sub hG⟩
theorem ZXC {n:Nat} {dK G DS:Hp} {k1:Nat} {sls:List Sl} {ds:List Hp} {R:List (List (List Int))} {W:Hp→Prop} (hn8:n≤8) (hSl:S.ls.length=n) (hRl:R.length=n) (a:ZBA v S h (dK::G::DS::l)) (wK:Own cSl dK ⟨some ⟨k1,0,none⟩,n,n⟩ sls) (oD:On DS ds) (ra:ZHo sls ds G R)
 (ho:∀ x∈S.ls,x.out.length≤256) (hr:∀ r∈R,r.length≤100000)
 (hW:∀ dK' G' DS' sls' ds' h',ZBA v ⟨S.d,S.ls.map clr⟩ h' (dK'::G'::DS'::l)→Own cSl dK' ⟨some ⟨k1,0,none⟩,n,n⟩ sls'→On DS' ds'→ZHo sls' ds' G' (List.zipWith ZPe R S.ls)→W h'):
 Zg (0:Int) h fun J2 n2 h5=>
   ZB (decide (n2<(n:Int)))
    (Zi (some {block:=k1,off:=0}) n n2 fun a2=>
      ZC cSl (a2.add (n2.toNat*1)) h5 fun s1=>
         ZA TP 70 [Value.pointer v.p,Value.int IntKind.i64 n2] cSl h5 fun s2 h6=>
           (h6.rds (a2.add (n2.toNat*1)) [Value.slice s1.a s1.len s1.cap]∧True)∧
             ZY cSl 85 24 s1.a s1.len s1.cap s2.a s2.len h6 fun p2 k2 k3 h7=>
              Zi (some {block:=k1,off:=0}) n n2 fun a3=>ZU cSl (a3.add (n2.toNat*1)) {a:=p2,len:=k2,cap:=k3} h7 fun h8=>J2 (IntKind.i64.wrap (n2+1)) h8)
    (W h5):=by
 have hkl:=wK.1
 refine Zb (fun z h'=>∃ (j:Nat) (dK G DS:Hp) (sls:List Sl) (ds:List Hp),z=(j:Int)∧j≤n∧ZBA v (ZES S j) h' (dK::G::DS::l)∧Own cSl dK ⟨some ⟨k1,0,none⟩,n,n⟩ sls∧On DS ds∧ZHo sls ds G (ZHy R S j)) (fun z=>n-z.toNat)
  ⟨0,dK,G,DS,sls,ds,rfl,Nat.zero_le _,a,wK,oD,ra⟩ ?_
 rintro J z h2 again ⟨j,dK,G,DS,sls,ds,rfl,hj,a2,wK,oD,ra⟩
 have hkl:=wK.1
 refine ZH (fun hlt=>?_) fun hge=>?_
 ·have hj':j<n:=by omega
  have hjS:j<S.ls.length:=by omega
  have hjR:j<R.length:=by omega
  have hrl:(ZHy R S j).length=n:=by unfold ZHy; simp; omega
  have hsls:sls.length=n:=by rw [ra.1,hrl]
  have a0:sls[j]?=some sls[j]:=List.getElem?_eq_getElem (by omega)
  have hdl:ds.length=n:=by rw [ra.2.1,hrl]
  have hdj:ds[j]?=some ds[j]:=List.getElem?_eq_getElem (by omega)
  have hrj:=ZTx (j:=j) (T:=S) (by omega) hjR
  obtain ⟨ssj,wj,rj⟩:=ra.2.2 j _ _ _ a0 hdj hrj
  generalize hs0:sls[j]=s0 at*
  have hat:=ZTc hjS
  have hol:=ZQK (T:=S) (j:=j) (by omega)
  have hset:=ZQt hjS
  have hx0:(ZES S j).ls[j]'(by omega)=S.ls[j]:=by
   have h1:=List.getElem?_eq_getElem (l:=(ZES S j).ls) (i:=j) (by omega)
   rw [hat] at h1
   exact (Option.some.inj h1).symm
  have hxo:=ho _ (List.getElem_mem hjS)
  have hRj:=hr _ (List.getElem_mem hjR)
  rw [ZAH (by omega)]
  refine ZM wK.row (Int.natCast_nonneg j) (by omega) fun q hq'=>ZO wK.row (a2.sub (by simp)) rfl hq' (i:=j) a0 (by rfl) ?_
  refine ZV6 (n:=j) a2 (by omega) (by rw [hx0]; omega) fun s2 ss r h6 a6 r6 rr6=>?_
  rw [hx0] at a6 rr6
  have a6:ZBA v (ZES S (j+1)) h6 (r::dK::G::DS::l):=by
   have e:(⟨(ZES S j).d,(ZES S j).ls.set j (clr S.ls[j])⟩:VS)=ZES S (j+1):=by rw [hset]; rfl
   rw [←e]; exact a6
  cases hq'
  refine ⟨⟨ZVv wK.row (a6.sub (by simp)) rfl rfl (i:=j) a0 (by rfl),trivial⟩,?_⟩
  obtain ⟨V,o6,clV⟩:=a6.open
  have o7:On h6 (DS::V::r::dK::G::l):=o6.perm (by
   refine List.Perm.trans ?_ (List.perm_middle (a:=DS) (l₁:=[V,r,dK,G]) (l₂:=l))
   exact List.Perm.refl _)
  obtain ⟨R7,o8,_,cl8⟩:=ZPh o7 oD hdj
  have hsl2:=r6.1
  have hss:=ZCn.len rr6
  have hwjl:=ZCn.len rj
  refine ZV (cd:=cSl) (g:=r) (s:=s0) (t:=s2) (xs:=ssj) (ys:=ss) o8 rfl wj (by decide) r6 (o8.mem (by simp)) ?_ fun d9 p9 n9 m9 h9 o9 w9=>?_
  ·exact Nat.le_trans (Nat.mul_le_mul_right _ (show _≤200000 by omega)) (by decide)
  ·obtain ⟨DS',o10,oD'⟩:=cl8 h9 d9 _ o9
   have o11:On h9 (dK::V::r::G::DS'::l):=o10.pick [3,1,2,4,0] 5 (by decide) (by decide)
   refine ZM wK.row (Int.natCast_nonneg j) (by omega) fun q hq2=>?_
   refine ZB4 o11 rfl wK hq2 (i:=j) (by omega) rfl fun dK' h12 o12 wK'=>?_
   have o13:On h12 ([r,G]++(V::dK'::DS'::l)):=o12.pick [2,3,1,0,4] 5 (by decide) (by decide)
   obtain ⟨o14,o15⟩:=On.joined o13
   have a15:=clV h12 _ (o14.swap)
   refine again _ _ ⟨j+1,dK',ZIz [r,G],DS',sls.set j ⟨p9,n9,m9⟩,ds.set j d9,rfl,by omega,a15.perm (List.Perm.swap _ _ _),wK',oD',?_⟩ (by omega)
   rw [←ZSa (by omega) hjR hjS]
   exact ra.set (o15.mem (by simp)) (by omega) w9 (ZCn.append (rj.sub (o15.mem (by simp))) (rr6.sub (o15.mem (by simp))))
 ·have hje:j=n:=by omega
  subst hje
  have e1:ZES S S.ls.length=⟨S.d,S.ls.map clr⟩:=by unfold ZES; rw [List.take_length,List.drop_length,List.append_nil]
  have e2:ZHy R S R.length=List.zipWith ZPe R S.ls:=by
   unfold ZHy
   rw [List.drop_length,List.append_nil,List.take_of_length_le (by simp; omega)]
  rw [←hSl,e1] at a2
  rw [←hRl,e2] at ra
  exact hW dK G DS sls ds h2 a2 wK oD ra
end
theorem ZNX:∀ n:Nat,Z1 n [Value.slice none 0 0]=ZG cSl (List.replicate n ⟨none,0,0⟩)
 | 0=>rfl
 | n+1=>by
   show Value.slice none 0 0::Z1 n [Value.slice none 0 0]=Value.slice none 0 0::ZG cSl (List.replicate n ⟨none,0,0⟩)
   rw [ZNX n]
theorem ZYU {k n:Nat} {e:TypeId}:Own cSl (ob k (Z1 n [Value.slice none 0 0]) e) ⟨some ⟨k,0,none⟩,n,n⟩ (List.replicate n ⟨none,0,0⟩):=
 ZBG (rest:=[]) (by rw [ZNX,List.append_nil]) (by simp) (by simp)
theorem On.emps {h:Hp} {l:List Hp} (o:On h l):∀ n:Nat,On h (List.replicate n Hp.emp++l)
 | 0=>o
 | n+1=>(On.emps o n).emp
theorem ZDT.append {a b:List (List Int)} (h:ZDT a) (g:ZDT b):ZDT (a++b):=by
 obtain ⟨fs,h1,rfl⟩:=h
 obtain ⟨gs,g1,rfl⟩:=g
 exact ⟨fs++gs,fun f hf=>(List.mem_append.1 hf).elim (h1 f) (g1 f),by rw [List.map_append]⟩
theorem ZWN {R:List (List (List Int))} {ls:List LS} {r:List (List Int)} (h:r∈List.zipWith ZPe R ls):∃ a∈R,∃ x∈ls,r=ZPe a x:=by
 obtain ⟨i,hi⟩:=List.getElem?_of_mem h
 rw [List.getElem?_zipWith] at hi
 cases h1:R[i]? with
 | none=>rw [h1] at hi; cases hi
 | some a=>
   cases h2:ls[i]? with
   | none=>rw [h1,h2] at hi; cases hi
   | some x=>
     rw [h1,h2] at hi
     cases hi
     exact ⟨a,List.mem_of_getElem? h1,x,List.mem_of_getElem? h2,rfl⟩
def ZHm (xs:List Act) (bss:List (List Int)):List (Int×Int×List Int):=List.zipWith (fun x b=>(x.Kind,x.Who,b)) xs bss
theorem ZQh {α:Type} {l:List α} {i:Nat} {a:α} (h:l[i]?=some a):l.drop i=a::l.drop (i+1):=by
 obtain ⟨h1,rfl⟩:=List.getElem?_eq_some_iff.1 h
 exact List.drop_eq_getElem_cons h1
theorem ZUZ {xs:List Act} {bss:List (List Int)} {i:Nat} {x:Act} {b:List Int} (hx:xs[i]?=some x) (hb:bss[i]?=some b):(ZHm xs bss)[i]?=some (x.Kind,x.Who,b):=by
 unfold ZHm
 rw [List.getElem?_zipWith,hx,hb]
def ZFz (bss:List (List Int)):Nat:=(bss.map List.length).sum
theorem ZE4 {bss:List (List Int)} {i:Nat} {b:List Int} (h:bss[i]?=some b):ZFz (bss.take (i+1))=ZFz (bss.take i)+b.length:=by
 unfold ZFz
 rw [ZFI h,List.map_append,List.sum_append]
 simp
theorem ZIw:∀ (bss:List (List Int)) (i:Nat),ZFz (bss.take i)≤ZFz bss
 | [],i=>by simp [ZFz]
 | b::bss,0=>by simp [ZFz]
 | b::bss,i+1=>by
   have:=ZIw bss i
   unfold ZFz at*
   simp only [List.take_succ_cons,List.map_cons,List.sum_cons]
   omega
def ZHt (R:List (List (List Int))):List Nat:=R.map fun r=>(ZLL [] [] (ZJB r)).length
section
variable {h:Hp} {l:List Hp}
theorem ZVJ {sb sp pa:Sl} {gb gp ga:Hp} {bs:List Bond} {ps:List Z3} {look beat:Int} {xs:List Act} {bss:List (List Int)} (o:On h l) (hb:gb∈l) (rb:Row Z8 gb sb bs) (hp:gp∈l) (rp:Row Z0 gp sp ps) (hr:ZCt bs ps look beat=true)
 (hga:ga∈l) (ra:Row ZCo ga pa xs) (ai:ZEi l xs bss) (hn:xs.length≤10) (ht:ZFz bss≤6500)
 {Q:ZBP→Hp→Prop} (hq:∀ v S R sn tk tss dT h',ZBA v S h' (dT::l)→Own cSl dT tk tss→tss.map Sl.len=ZHt R→ZPZ (ZEs bs ps look beat) (List.replicate ps.length []) (ZHm xs bss) S R→ZKs xs.length (ZFz bss) S→S.ls.length=ps.length→R.length=ps.length→Q ⟨sn,tk,v.p⟩ h'):
 ZA TP 31 [ZAg.enc ⟨sb,sp,look,beat⟩,Value.slice pa.a pa.len pa.cap] ZAc h Q:=by
 refine c31 (p0:=⟨sb,sp,look,beat⟩) (p1:=pa) ?_
 unfold F31
 have hpl:ps.length≤8:=(ZDV hr).pl
 have hlp:=rp.1
 have hla:=ra.1
 refine ZSN o hb rb hp rp hr fun v h1 a1=>?_
 refine ZQ rfl ?_
 dsimp only
 refine ⟨by omega,by omega,by omega,by omega,?_⟩
 refine a1.new fun k1 h2 a2=>?_
 have en:((sp.len:Int)).toNat=ps.length:=by omega
 rw [en] at a2 ⊢
 obtain ⟨V,o3,clV⟩:=a2.open
 have o4:On h2 (List.replicate ps.length Hp.emp++(V::Hp.emp::ob k1 (Z1 ps.length [Value.slice none 0 0]) 163::l)):=On.emps (o3.emp.swap) _
 obtain ⟨o5,oDS⟩:=On.joined o4
 have a5:ZBA v (ZEs bs ps look beat) h2 (ob k1 (Z1 ps.length [Value.slice none 0 0]) 163::Hp.emp::ZIz (List.replicate ps.length Hp.emp)::l):=clV _ _ (o5.pick [1,3,2,0] 4 (by decide) (by decide))
 have hls0:(ZEs bs ps look beat).ls.length=ps.length:=by show (List.replicate _ _).length=_; rw [List.length_replicate]
 have hacts:∀ i:Nat,i<xs.length→∃ (b:List Int),bss[i]?=some b∧(ZHm xs bss).drop i=((xs[i]?.getD ⟨0,0,⟨none,0,0⟩⟩).Kind,(xs[i]?.getD ⟨0,0,⟨none,0,0⟩⟩).Who,b)::(ZHm xs bss).drop (i+1):=fun i hi=>by
  have hi2:i<bss.length:=by rw [←ai.1]; exact hi
  refine ⟨bss[i],List.getElem?_eq_getElem hi2,?_⟩
  rw [List.getElem?_eq_getElem hi]
  exact ZQh (ZUZ (List.getElem?_eq_getElem hi) (List.getElem?_eq_getElem hi2))
 refine Zb (fun z h'=>∃ (i:Nat) (S:VS) (R:List (List (List Int))) (dK G DS:Hp) (sls:List Sl) (ds:List Hp),z=(i:Int)∧i≤xs.length∧ZBA v S h' (dK::G::DS::l)∧Own cSl dK ⟨some ⟨k1,0,none⟩,ps.length,ps.length⟩ sls∧On DS ds∧ZHo sls ds G R∧
  ZKs i (ZFz (bss.take i)) S∧S.ls.length=ps.length∧R.length=ps.length∧(∀ r∈R,ZDT r∧r.length≤256*i)∧(∀ S' R',ZPZ S R ((ZHm xs bss).drop i) S' R'→ZPZ (ZEs bs ps look beat) (List.replicate ps.length []) (ZHm xs bss) S' R')) (fun z=>xs.length-z.toNat)
  ⟨0,ZEs bs ps look beat,List.replicate ps.length [],_,Hp.emp,_,_,_,rfl,Nat.zero_le _,a5,ZYU,oDS,?_,⟨0,ZNJ hr,?_⟩,hls0,List.length_replicate,?_,fun S' R' hR=>hR⟩ ?_
 ·refine ⟨by simp,by simp,fun i s d r e1 e2 e3=>?_⟩
  have e1:=List.eq_of_mem_replicate (List.mem_of_getElem? e1)
  have e2:=List.eq_of_mem_replicate (List.mem_of_getElem? e2)
  have e3:=List.eq_of_mem_replicate (List.mem_of_getElem? e3)
  subst e1; subst e2; subst e3
  exact ⟨[],Own.nil _,trivial⟩
 ·have:∀ n:Nat,pot (List.replicate n (ZLq beat))=0:=fun n=>by
   induction n with
   | zero=>rfl
   | succ n ih=>
     unfold pot at*
     rw [List.replicate_succ,List.map_cons,List.sum_cons,ih]
     rfl
  show 0+pot (List.replicate ps.length (ZLq beat))≤_
  rw [this]
  exact Nat.zero_le _
 ·intro r hr
  have:=List.eq_of_mem_replicate hr
  subst this
  exact ⟨ZDT.nil,Nat.zero_le _⟩
 rintro J1 z h6 again ⟨i,S,R,dK,G,DS,sls,ds,rfl,hi,a6,wK,oD,rw6,iv,hSl,hRl,hRo,hrun⟩
 refine ZH (fun hlt=>?_) fun hge=>?_
 ·have hi':i<xs.length:=by omega
  have ax:xs[i]?=some xs[i]:=List.getElem?_eq_getElem hi'
  obtain ⟨b,hbb,hdrop⟩:=hacts i hi'
  rw [ax,Option.getD_some] at hdrop
  obtain ⟨hby,gx,hgx,rx⟩:=ai.2 i _ b ax hbb
  have hlt2:=ZE4 hbb
  have hle:=ZIw bss (i+1)
  generalize xs[i]=x at*
  rw [ZAH (by omega)]
  refine ZM ra (Int.natCast_nonneg i) (by omega) fun q hq'=>ZO ra (a6.sub (by simp [hga])) rfl hq' (i:=i) ax (by rfl) ?_
  refine ZQl (n:=i) (t:=ZFz (bss.take i)) (p1:=x) (g:=gx) (bs:=b) a6 (by simp [hgx]) rx hby iv (by omega) (by omega) fun T h7 bb a7 dr iv7 hl7=>?_
  have hout:∀ y∈T.ls,y.out.length≤256∧ZDT y.out:=by
   obtain ⟨N,ok,_⟩:=iv7
   exact fun y hy=>⟨(ok.l y hy).out,(ok.l y hy).outs⟩
  refine ZXC (n:=ps.length) (R:=R) hpl (hl7.trans hSl) hRl a7 wK oD rw6 (fun y hy=>(hout y hy).1) (fun r hr=>by have:=(hRo r hr).2; omega) fun dK' G' DS' sls' ds' h8 a8 wK' oD' rw8=>?_
  refine again _ _ ⟨i+1,_,_,dK',G',DS',sls',ds',rfl,by omega,a8,wK',oD',rw8,?_,by dsimp only; rw [List.length_map]; exact hl7.trans hSl,by rw [List.length_zipWith,hl7,hSl,hRl,Nat.min_self],fun r hr=>?_,fun S' R' hR=>hrun S' R' ?_⟩ (by omega)
  ·rw [hlt2]
   exact iv7.clr
  ·obtain ⟨a0,ha0,y,hy,rfl⟩:=ZWN hr
   have h1:=hRo a0 ha0
   have h2:=hout y hy
   refine ⟨h1.1.append h2.2,?_⟩
   show (a0++y.out).length≤_
   rw [List.length_append]
   omega
  ·rw [hdrop]
   exact ZPZ.cons dr hR
 ·have hie:i=xs.length:=by omega
  subst hie
  have hbl:bss.take xs.length=bss:=by rw [ai.1,List.take_length]
  rw [hbl] at iv
  have hrun:=hrun S R (by
   rw [List.drop_of_length_le (by unfold ZHm; rw [List.length_zipWith]; omega)]
   exact ZPZ.nil)
  have hsl:sls.length=ps.length:=by rw [rw6.1,hRl]
  have hdl:ds.length=ps.length:=by rw [rw6.2.1,hRl]
  obtain ⟨V6,o6,clV6⟩:=a6.open
  have o7:On h6 (Hp.emp::Hp.emp::V6::dK::G::DS::l):=o6.emp.emp
  refine Zb (fun z h'=>∃ (j:Nat) (sn tk:Sl) (dSn dT:Hp) (sns tss:List Sl),z=(⟨sn,tk,v.p⟩,(j:Int))∧j≤ps.length∧On h' (dSn::dT::V6::dK::G::DS::l)∧Own cSl dSn sn sns∧Own cSl dT tk tss∧sns.length=j∧tss.map Sl.len=ZHt (R.take j)) (fun z=>ps.length-z.2.toNat)
   ⟨0,⟨none,0,0⟩,⟨none,0,0⟩,Hp.emp,Hp.emp,[],[],rfl,Nat.zero_le _,o7,Own.nil _,Own.nil _,rfl,rfl⟩ ?_
  rintro J3 z h8 again ⟨j,sn,tk,dSn,dT,sns,tss,rfl,hj,o8,wS,wT,hsn,hts⟩
  dsimp only
  refine ZH (fun hlt2=>?_) fun hge2=>?_
  ·have hj':j<ps.length:=by omega
   have a0:sls[j]?=some sls[j]:=List.getElem?_eq_getElem (by omega)
   have hdj:ds[j]?=some ds[j]:=List.getElem?_eq_getElem (by omega)
   have hRj:R[j]?=some R[j]:=List.getElem?_eq_getElem (by omega)
   obtain ⟨ss,wss,rss⟩:=rw6.2.2 j _ _ _ a0 hdj hRj
   obtain ⟨⟨fs,hfs,hfe⟩,hfl⟩:=hRo _ (List.getElem_mem (by omega:j<R.length))
   have hfe:R[j]=fs.map Zm:=hfe
   have hdsub:(ds[j]).sub DS:=oD.2 _ (List.getElem_mem (by omega))
   have htk:=ZFI hRj
   have hfv:=ZEl fs hfs
   rw [←hfe] at hfv
   have hfsl:fs.length≤2560:=by
    have:R[j].length=fs.length:=by rw [hfe,List.length_map]
    omega
   rw [hfe] at rss
   generalize R[j]=rj at*
   generalize sls[j]=s3 at*
   rw [ZAH (by omega)]
   refine ZM wK.row (Int.natCast_nonneg j) (by omega) fun q hq'=>ZO wK.row (o8.mem (by simp)) rfl hq' (i:=j) a0 (by rfl) ?_
   refine ZMZ (g:=DS) (G:=G) o8 (by simp) (by simp) (wss.row.sub hdsub) rss hfs (by omega) fun s4 d10 h10 o10 w10=>?_
   refine ZI (vs:=ZG cSl [s4]) o10 fun k4 h11 o11=>?_
   refine ZV (cd:=cSl) (g:=ob k4 (ZG cSl [s4]) 165) (s:=sn) (t:=⟨some ⟨k4,0,none⟩,1,1⟩) (ys:=[s4]) (o11.pick [2,0,1,3,4,5,6,7] 8 (by decide) (by decide)) rfl wS (by decide) (Zf rfl rfl) (o11.get (i:=0) rfl) ?_ fun d12 p12 n12 m12 h12 o12 w12=>?_
   ·exact Nat.le_trans (Nat.mul_le_mul_right _ (show _≤200000 by rw [List.length_singleton]; omega)) (by decide)
   refine ZS2 (g:=d10) o12 (by simp) w10.row (Nat.le_trans (List.length_filter_le _ _) (by omega)) fun s5 d13 h13 o13 w13=>?_
   have hs5:=w13.1
   refine ZI (vs:=ZG cSl [s5]) o13 fun k7 h14 o14=>?_
   have htl:tss.length=j:=by
    have:=congrArg List.length hts
    unfold ZHt at this
    simp at this
    omega
   refine ZV (cd:=cSl) (g:=ob k7 (ZG cSl [s5]) 144) (s:=tk) (t:=⟨some ⟨k7,0,none⟩,1,1⟩) (ys:=[s5]) (o14.pick [5,0,2,6,7,8,9] 10 (by decide) (by decide)) rfl wT (by decide) (Zf rfl rfl) (o14.get (i:=0) rfl) ?_ fun d15 p15 n15 m15 h15 o15 w15=>?_
   ·exact Nat.le_trans (Nat.mul_le_mul_right _ (show _≤200000 by rw [List.length_singleton]; omega)) (by decide)
   refine again _ _ ⟨j+1,⟨p12,n12,m12⟩,⟨p15,n15,m15⟩,d12,d15,sns++[s4],tss++[s5],rfl,by omega,o15.pick [2,0,3,4,5,6] 7 (by decide) (by decide),w12,w15,by rw [List.length_append,hsn]; rfl,?_⟩ (by show ps.length-((j+1:Nat):Int).toNat<ps.length-(j:Int).toNat; omega)
   rw [List.map_append,hts,htk]
   unfold ZHt
   rw [List.map_append,List.map_cons,List.map_nil,List.map_cons,List.map_nil,hs5,hfv]
  ·have hje:j=ps.length:=by omega
   subst hje
   have hRt:R.take ps.length=R:=by rw [←hRl,List.take_length]
   rw [hRt] at hts
   have a9:ZBA v S h8 (dT::l):=clV6 h8 _ (o8.pick [2,1] 6 (by decide) (by decide))
   exact hq v S R sn tk tss dT h8 a9 wT hts hrun iv hSl hRl
end
structure FS where
 s:SS
 out:List ZP
def FS.ls (x:FS):LS:=⟨[],0,x.s,x.out.map Zm⟩
def ZNn (st:SS×List ZP×Bool) (f:ZP):SS×List ZP×Bool:=
 if st.2.1.length<256 then (st.1,st.2.1++[f],st.2.2) else ((ZLl st.1).1,st.2.1,st.2.2||(ZLl st.1).2)
def ZLY (st:SS×List ZP×Bool) (fs:List ZP):SS×List ZP×Bool:=fs.foldl ZNn st
def ZSy (st:SS×List ZP×Bool):SS×List (List Int)×Bool:=(st.1,st.2.1.map Zm,st.2.2)
theorem ZOR (st:SS×List ZP×Bool) (f:ZP):ZBb (ZSy st) f=ZSy (ZNn st f):=by
 unfold ZBb ZNn ZSy
 dsimp only
 rw [List.length_map]
 split
 ·rw [List.map_append]; rfl
 ·rfl
theorem ZHa:∀ (fs:List ZP) (st:SS×List ZP×Bool),ZAp (ZSy st) fs=ZSy (ZLY st fs)
 | [],st=>rfl
 | f::fs,st=>by
   show ZAp (ZBb (ZSy st) f) fs=ZSy (ZLY (ZNn st f) fs)
   rw [ZOR,ZHa fs]
def lsF (x:FS) (m:Msg):FS:=
 if (ZAi x.s m).2.2=true then ⟨(ZLY ((ZAi x.s m).1,x.out,false) [(ZAi x.s m).2.1]).1,(ZLY ((ZAi x.s m).1,x.out,false) [(ZAi x.s m).2.1]).2.1⟩ else ⟨(ZAi x.s m).1,x.out⟩
theorem ZXp (x:FS) (m:Msg):lsV x.ls m=(lsF x m).ls:=by
 have h:=ZHa [(ZAi x.s m).2.1] ((ZAi x.s m).1,x.out,false)
 have e:ZSy ((ZAi x.s m).1,x.out,false)=((ZAi x.s m).1,x.ls.out,false):=rfl
 rw [e] at h
 unfold lsV ZFV lsF
 have e2:x.ls.s=x.s:=rfl
 rw [e2]
 split
 ·rw [h]; rfl
 ·rfl
def ZEg (st:List FS×Bool) (o:Out):List FS×Bool:=
 if 0≤o.To∧o.To<st.1.length then match st.1[o.To.toNat]? with
  | none=>st
  | some x=>(st.1.set o.To.toNat (lsF x (ZJI o)),st.2||(x.s.up&&!(lsF x (ZJI o)).s.up))
 else st
def ZN0 (ls:List FS) (os:List Out):List FS×Bool:=os.foldl ZEg (ls,false)
theorem ZMc (st:List FS×Bool) (o:Out) (h:(ZEg st o).2=false):st.2=false:=by
 unfold ZEg at h
 split at h
 ·split at h
  ·exact h
  ·simp only [Bool.or_eq_false_iff] at h
   exact h.1
 ·exact h
theorem ZGK:∀ (os:List Out) (st:List FS×Bool),(os.foldl ZEg st).2=false→st.2=false
 | [],_,h=>h
 | o::os,st,h=>ZMc st o (ZGK os _ h)
def ZKo (dn:List Bool):Prop:=∀ i:Nat,dn[i]?.getD false=false
theorem ZO4 {st:List FS×Bool} {dn:List Bool} {o:Out} (h:(ZEg st o).2=false) (hd:ZKo dn):(ZA1 (st.1.map FS.ls,dn) o).1=(ZEg st o).1.map FS.ls∧ZKo (ZA1 (st.1.map FS.ls,dn) o).2:=by
 unfold ZEg at h ⊢
 unfold ZA1
 dsimp only
 rw [List.length_map]
 by_cases hn:0≤o.To∧o.To<st.1.length
 ·rw [if_pos hn] at h ⊢
  rw [if_pos hn]
  rw [List.getElem?_map]
  cases hx:st.1[o.To.toNat]? with
  | none=>exact ⟨rfl,hd⟩
  | some x=>
    rw [hx] at h
    dsimp only [Option.map_some] at h ⊢
    simp only [Bool.or_eq_false_iff] at h
    rw [ZXp]
    refine ⟨by rw [List.map_set],fun i=>?_⟩
    by_cases hi:o.To.toNat=i
    ·subst hi
     by_cases hl:o.To.toNat<dn.length
     ·rw [List.getElem?_set_self hl,hd]
      exact h.2
     ·rw [List.getElem?_eq_none (by rw [List.length_set]; omega)]
      rfl
    ·rw [List.getElem?_set_ne hi]
     exact hd i
 ·rw [if_neg hn,if_neg hn]
  exact ⟨rfl,hd⟩
theorem ZIb:∀ (os:List Out) {st:List FS×Bool} {dn:List Bool},(os.foldl ZEg st).2=false→ZKo dn→(os.foldl ZA1 (st.1.map FS.ls,dn)).1=(os.foldl ZEg st).1.map FS.ls∧ZKo (os.foldl ZA1 (st.1.map FS.ls,dn)).2
 | [],st,dn,_,hd=>⟨rfl,hd⟩
 | o::os,st,dn,h,hd=>by
   rw [List.foldl_cons] at h ⊢
   rw [List.foldl_cons]
   have h1:=ZO4 (ZGK os _ h) hd
   have e:ZA1 (st.1.map FS.ls,dn) o=((ZEg st o).1.map FS.ls,(ZA1 (st.1.map FS.ls,dn) o).2):=by rw [←h1.1]
   rw [e]
   exact ZIb os h h1.2
theorem ZVq {dn:List Bool} (h:ZKo dn):dn.any id=false:=by
 rw [List.any_eq_false]
 intro x hx
 obtain ⟨i,hi⟩:=List.getElem?_of_mem hx
 have:=h i
 rw [hi] at this
 simpa using this
theorem ZXU {d:DS} {ls:List FS} {os:List Out} {T:VS} (h:(ZN0 ls os).2=false) (t:ZMm ⟨d,ls.map FS.ls⟩ os T):T=⟨d,(ZN0 ls os).1.map FS.ls⟩:=by
 have h1:=ZIb os (st:=(ls,false)) (dn:=List.replicate (ls.map FS.ls).length false) h (fun i=>by
  cases hx:(List.replicate (ls.map FS.ls).length false)[i]? with
  | none=>rfl
  | some x=>rw [List.eq_of_mem_replicate (List.mem_of_getElem? hx)]; rfl)
 unfold ZMm ZAy at t
 dsimp only at t h1
 have e:=ZVq h1.2
 cases t with
 | done _=>
   show VS.mk d _=VS.mk d _
   rw [h1.1]
   rfl
 | step e2 _=>rw [e] at e2; cases e2
def ZPG (who:Int):DS→List FS→List ZP→Option (DS×List FS)
 | d,ls,[]=>some (d,ls)
 | d,ls,f::fs=>if (ZN0 ls (doD d who f.Seq (ZDH f)).2).2=true then none else ZPG who (doD d who f.Seq (ZDH f)).1 (ZN0 ls (doD d who f.Seq (ZDH f)).2).1 fs
theorem ZU8 {who:Int}:∀ (fs:List ZP) {d d':DS} {ls ls':List FS} {T:VS},ZPG who d ls fs=some (d',ls')→ZGV who ⟨d,ls.map FS.ls⟩ fs T→T=⟨d',ls'.map FS.ls⟩
 | [],d,d',ls,ls',T,h,a=>by
   unfold ZPG at h
   cases h
   cases a
   rfl
 | f::fs,d,d',ls,ls',T,h,a=>by
   unfold ZPG at h
   split at h
   ·cases h
   ·rename_i hd
    cases a with
    | cons t la=>
      have e:=ZXU (by simpa using hd) t
      subst e
      exact ZU8 fs h la
def ZGD (x:FS) (f:ZP):FS×List ZP×Bool:=
 (⟨(ZLY ((Zk x.s f).1,x.out,false) (Zk x.s f).2.1).1,(ZLY ((Zk x.s f).1,x.out,false) (Zk x.s f).2.1).2.1⟩,
   if (Zk x.s f).2.2.2.1=true then [mkF f.Seq (Zk x.s f).2.2.1] else [],
   (Zk x.s f).2.2.2.2||(ZLY ((Zk x.s f).1,x.out,false) (Zk x.s f).2.1).2.2)
theorem ZYD {x:FS} {f:ZP} (hw:wfF f) (hk:okF f=true):ZBN x.ls (Zm f)=((ZGD x f).1.ls,(ZGD x f).2.1,(ZGD x f).2.2):=by
 have h1:=ZGg f hw
 have h2:=ZEq hw hk
 have h3:=ZHa (Zk x.s f).2.1 ((Zk x.s f).1,x.out,false)
 unfold ZBN
 have e1:x.ls.held=[]:=rfl
 have e2:x.ls.lost=0:=rfl
 have e3:x.ls.s=x.s:=rfl
 have e4:x.ls.out=x.out.map Zm:=rfl
 rw [e1,e2,e3,e4,List.nil_append,h1]
 dsimp only
 rw [List.foldl_cons,List.foldl_nil]
 unfold ZAk
 rw [h2]
 dsimp only
 have e5:ZSy ((Zk x.s f).1,x.out,false)=((Zk x.s f).1,x.out.map Zm,false):=rfl
 rw [e5] at h3
 rw [h3]
 unfold ZGD ZSy FS.ls
 dsimp only
 rw [Bool.false_or,List.nil_append]
def ZMr (d:DS) (ls:List FS) (who:Nat) (f:ZP):Option (DS×List FS):=
 match ls[who]? with
 | none=>none
 | some x=>if (ZGD x f).2.2=true then none else match ZPG (who:Int) d (ls.set who (ZGD x f).1) (ZGD x f).2.1 with
   | none=>none
   | some r=>match r.2[who]? with
     | none=>none
     | some y=>if (ZGD x f).1.s.up=true∧y.s.up=false then none else some r
theorem ZVx {d d':DS} {ls ls':List FS} {who:Nat} {f:ZP} {T:VS} {b:Bool} (hw:wfF f) (hk:okF f=true) (h:ZMr d ls who f=some (d',ls')) (r:DoR ⟨d,ls.map FS.ls⟩ 1 (who:Int) (Zm f) T b):T=⟨d',ls'.map FS.ls⟩:=by
 unfold ZMr at h
 cases hx:ls[who]? with
 | none=>rw [hx] at h; cases h
 | some x=>
   rw [hx] at h
   dsimp only at h
   have hlt:who<ls.length:=(List.getElem?_eq_some_iff.1 hx).1
   split at h
   ·cases h
   ·rename_i hdn
    have hdn:(ZGD x f).2.2=false:=by simpa using hdn
    cases ha:ZPG (who:Int) d (ls.set who (ZGD x f).1) (ZGD x f).2.1 with
    | none=>rw [ha] at h; cases h
    | some rr=>
      rw [ha] at h
      dsimp only at h
      cases hy:rr.2[who]? with
      | none=>rw [hy] at h; cases h
      | some y=>
        rw [hy] at h
        dsimp only at h
        split at h
        ·cases h
        ·rename_i hup
         cases h
         unfold DoR at r
         rw [if_neg (by decide),if_neg (by intro hn; exact hn ⟨by omega,by dsimp only; rw [List.length_map]; omega⟩),if_pos rfl] at r
         obtain ⟨_,x0,hx0,r⟩:=r
         rw [Int.toNat_natCast] at hx0 r
         dsimp only at hx0
         rw [List.getElem?_map,hx] at hx0
         simp only [Option.map_some,Option.some.injEq] at hx0
         subst hx0
         obtain ⟨U,y0,la,hy0,hT⟩:=r
         rw [ZYD hw hk] at la hT
         dsimp only at la hT
         have e0:(ls.map FS.ls).set who (ZGD x f).1.ls=(ls.set who (ZGD x f).1).map FS.ls:=by rw [List.map_set]
         rw [e0] at la
         have e:=ZU8 _ ha la
         subst e
         dsimp only at hy0
         rw [List.getElem?_map,hy] at hy0
         simp only [Option.map_some,Option.some.injEq] at hy0
         subst hy0
         rw [if_neg (by
          rintro (h1|⟨h1,h2⟩)
          ·rw [hdn] at h1; cases h1
          ·exact hup ⟨h1,h2⟩)] at hT
         exact hT
def ZXR:DS→List FS→List (List ZP)→List (Nat×ZP)→Option (DS×List (List ZP))
 | d,_,R,[]=>some (d,R)
 | d,ls,R,a::la=>match ZMr d ls a.1 a.2 with
   | none=>none
   | some r=>ZXR r.1 (r.2.map fun x=>⟨x.s,[]⟩) (List.zipWith (fun a x=>a++x.out) R r.2) la
theorem ZY0:∀ (la:List (Nat×ZP)) {d d':DS} {ls:List FS} {R Rf:List (List ZP)} {S:VS} {R':List (List (List Int))},(∀ a∈la,wfF a.2∧okF a.2=true)→ZXR d ls R la=some (d',Rf)→
 ZPZ ⟨d,ls.map FS.ls⟩ (R.map fun r=>r.map Zm) (la.map fun a=>(1,((a.1:Nat):Int),Zm a.2)) S R'→S.d=d'∧R'=Rf.map fun r=>r.map Zm
 | [],d,d',ls,R,Rf,S,R',_,h,r=>by
   unfold ZXR at h
   cases h
   cases r
   exact ⟨rfl,rfl⟩
 | a::la,d,d',ls,R,Rf,S,R',hw,h,r=>by
   unfold ZXR at h
   cases ht:ZMr d ls a.1 a.2 with
   | none=>rw [ht] at h; cases h
   | some rr=>
     rw [ht] at h
     dsimp only at h
     rw [List.map_cons] at r
     cases r with
     | cons dr rest=>
       have e:=ZVx (hw a (by simp)).1 (hw a (by simp)).2 ht dr
       subst e
       have e1:(rr.2.map FS.ls).map clr=(rr.2.map fun x=>(⟨x.s,[]⟩:FS)).map FS.ls:=by rw [List.map_map,List.map_map]; rfl
       have e2:List.zipWith ZPe (R.map fun r=>r.map Zm) (rr.2.map FS.ls)=(List.zipWith (fun a x=>a++x.out) R rr.2).map fun r=>r.map Zm:=by
        rw [List.zipWith_map,List.map_zipWith]
        congr 1
        funext a x
        unfold ZPe FS.ls
        rw [List.map_append]
       dsimp only at rest
       rw [e1,e2] at rest
       exact ZY0 la (fun x hx=>hw x (by simp [hx])) h rest
def ZN6:List (Nat×ZP):=[(0,onF 1),(2,onF 1),(0,mkF 1 ZZB),(2,mkF 1 ZMw),(0,mkF 2 ZY9),(2,mkF 2 ZUJ)]
def ZK3:Option (DS×List (List ZP)):=ZXR (ZDn (ZA9 0).1 (ZA9 0).2.1 (ZA9 0).2.2.1 (ZA9 0).2.2.2) (List.replicate 5 ⟨ZWD 50,[]⟩) (List.replicate 5 []) ZN6
def wfB (f:ZP):Bool:=[f.Seq,f.Msg_Kind,f.Msg_F_0,f.Msg_F_1,f.Msg_F_2,f.Msg_F_3,f.Msg_F_4,f.Msg_F_5].all fun n=>decide (-9223372036854775808≤n)&&decide (n≤9223372036854775807)
theorem ZYQ {f:ZP} (h:wfB f=true):wfF f:=by
 unfold wfB at h
 rw [List.all_eq_true] at h
 intro n hn
 have:=h n hn
 simp only [Bool.and_eq_true,decide_eq_true_eq] at this
 exact this
def ZU7:Bool:=match ZK3 with
 | none=>false
 | some r=>(r.1.trades.map fun t=>(t.Price,t.Ask))==[(100,1)]&&((r.2.map fun r=>(ZLL [] [] (r.filter okF)).length)[0]?==some 5)&&r.2.all fun r=>r.all wfB
theorem ZQM:ZU7=true:=by kernel_rfl
theorem ZSC:∃ d' Rf,ZK3=some (d',Rf)∧d'.trades.map (fun t=>(t.Price,t.Ask))=[(100,1)]∧(Rf.map fun r=>(ZLL [] [] (r.filter okF)).length)[0]?=some 5∧∀ r∈Rf,∀ f∈r,wfF f:=by
 have h:=ZQM
 unfold ZU7 at h
 cases hr:ZK3 with
 | none=>rw [hr] at h; cases h
 | some r=>
   rw [hr] at h
   simp only [Bool.and_eq_true,beq_iff_eq] at h
   refine ⟨r.1,r.2,rfl,h.1.1,h.1.2,fun x hx f hf=>?_⟩
   exact ZYQ (List.all_eq_true.1 (List.all_eq_true.1 h.2 x hx) f hf)
theorem ZUA:∀ a∈ZN6,wfF a.2∧okF a.2=true:=by
 intro a ha
 unfold ZN6 at ha
 simp only [List.mem_cons,List.not_mem_nil,or_false] at ha
 rcases ha with rfl|rfl|rfl|rfl|rfl|rfl
 ·exact ⟨ZGQ,by kernel_rfl⟩
 ·exact ⟨ZGQ,by kernel_rfl⟩
 ·exact ⟨ZCG ZGZ ZIy,by kernel_rfl⟩
 ·exact ⟨ZCG ZGZ ZFB,by kernel_rfl⟩
 ·exact ⟨ZCG ZKT ZI9,by kernel_rfl⟩
 ·exact ⟨ZCG ZKT ZGj,by kernel_rfl⟩
theorem ZVE:ZA9 0=([ZHz,ZEA],ZD2,3,50):=by kernel_rfl
theorem ZZx:ZCR .i64 0 3=0:=by kernel_rfl
theorem ZZN:ZEs [ZHz,ZEA] ZD2 3 50=⟨ZDn [ZHz,ZEA] ZD2 3 50,(List.replicate 5 (⟨ZWD 50,[]⟩:FS)).map FS.ls⟩:=by kernel_rfl
theorem ZZE (s1 s2 s3 s4 s5 s6:Sl):ZHm (ZE3 s1 s2 s3 s4 s5 s6) (ZO5.map fun x=>Zm x.2)=ZN6.map fun a=>(1,((a.1:Nat):Int),Zm a.2):=by kernel_rfl
theorem ZZI:List.replicate ZD2.length ([]:List (List Int))=(List.replicate 5 ([]:List ZP)).map fun r=>r.map Zm:=by kernel_rfl
theorem ZZq:ZFz (ZO5.map fun x=>Zm x.2)≤6500:=by
 unfold ZFz ZO5
 have h1:=ZBD ZGQ
 have h2:=ZBD (ZCG ZGZ ZIy)
 have h3:=ZBD (ZCG ZGZ ZFB)
 have h4:=ZBD (ZCG ZKT ZI9)
 have h5:=ZBD (ZCG ZKT ZGj)
 simp only [List.map_cons,List.map_nil,List.sum_cons,List.sum_nil]
 omega
theorem ZQn:ZK3=ZXR (ZDn [ZHz,ZEA] ZD2 3 50) (List.replicate 5 ⟨ZWD 50,[]⟩) (List.replicate 5 []) ZN6:=by
 unfold ZK3
 rw [ZVE]
theorem ZVl:ZCt [ZHz,ZEA] ZD2 3 50=true:=by kernel_rfl
theorem ZQu {s1 s2 s3 s4 s5 s6:Sl} {S:VS} {R:List (List (List Int))} (r:ZPZ (ZEs [ZHz,ZEA] ZD2 3 50) (List.replicate ZD2.length []) (ZHm (ZE3 s1 s2 s3 s4 s5 s6) (ZO5.map fun x=>Zm x.2)) S R):
 S.d.trades.map (fun t=>(t.Price,t.Ask))=[(100,1)]∧(ZHt R)[0]?=some 5:=by
 obtain ⟨d',Rf,hk,ht,hn,hwf⟩:=ZSC
 rw [ZZN,ZZE,ZZI] at r
 rw [ZQn] at hk
 obtain ⟨hSd,hRf⟩:=ZY0 ZN6 ZUA hk r
 rw [hSd]
 refine ⟨ht,?_⟩
 rw [hRf]
 rw [←hn]
 unfold ZHt
 rw [List.map_map]
 congr 1
 refine List.map_congr_left fun r hr=>?_
 show (ZLL [] [] (ZJB (r.map Zm))).length=_
 rw [ZEl r (hwf r hr)]
section
variable {h:Hp} {l:List Hp}
theorem ZI2 (o:On h l) {Q:Bool→Hp→Prop} (hq:∀ h',On h' l→Q true h'):ZA TP 18 [] cB h Q:=by
 refine c18 ?_
 unfold F18
 refine ZGa (way:=0) o fun sb sp gb gp h1 o1 rb rp=>?_
 rw [ZZx,ZVE] at rb rp ⊢
 dsimp only at rb rp ⊢
 refine ZW0 o1 fun pa da s1 s2 s3 s4 s5 s6 l2 h2 o2 wa ai=>?_
 have ai:=ai.mono (l':=da::(l2++gb::gp::l)) fun g hg=>List.mem_cons_of_mem _ hg
 have h10:(ZE3 s1 s2 s3 s4 s5 s6).length≤10:=by show 6≤10; omega
 have hkr:=fun S R=>ZQu (s1:=s1) (s2:=s2) (s3:=s3) (s4:=s4) (s5:=s5) (s6:=s6) (S:=S) (R:=R)
 have h6:(ZE3 s1 s2 s3 s4 s5 s6).length=6:=rfl
 generalize hxs:ZE3 s1 s2 s3 s4 s5 s6=xs at*
 have hl0:=ZZq
 generalize hbs:(ZO5.map fun x=>Zm x.2)=bss at*
 have hr0:=ZVl
 have hp5:ZD2.length=5:=rfl
 generalize [ZHz,ZEA]=bs at*
 generalize ZD2=ps at*
 refine ZVJ (sb:=sb) (sp:=sp) (pa:=pa) (look:=3) (beat:=50) (bs:=bs) (ps:=ps) (xs:=xs) (bss:=bss) o2 (gb:=gb) (gp:=gp) (ga:=da) (by simp) rb (by simp) rp hr0 (by simp) wa.row ai h10 hl0 fun v S R sn tk tss dT h3 a3 wT hts hrun iv hSl hRl=>?_
 obtain ⟨htr,htn⟩:=hkr S R hrun
 obtain ⟨N,ok,hpot⟩:=iv
 have htl:tss.length=5:=by
  have:=congrArg List.length hts
  unfold ZHt at this
  rw [List.length_map,List.length_map] at this
  omega
 have hwl:=wT.1
 obtain ⟨t0,ht0,hp0,ha0⟩:∃ t0,S.d.trades=[t0]∧t0.Price=100∧t0.Ask=1:=by
  match hS:S.d.trades,htr with
  | [t0],htr=>
    rw [List.map_cons,List.map_nil] at htr
    simp only [List.cons.injEq,Prod.mk.injEq,and_true] at htr
    exact ⟨t0,rfl,htr.1,htr.2⟩
  | [],htr=>cases htr
  | _::_::_,htr=>simp at htr
 obtain ⟨s0,hs0,hl5⟩:∃ s0,tss[0]?=some s0∧s0.len=5:=by
  rw [←hts,List.getElem?_map] at htn
  cases hz:tss[0]? with
  | none=>rw [hz] at htn; cases htn
  | some s0=>
    rw [hz] at htn
    simp only [Option.map_some,Option.some.injEq] at htn
    exact ⟨s0,rfl,htn⟩
 refine ZN (fun t h'=>t=false∧h'=h3) ?_ fun J hJ=>?_
 ·rintro t h' ⟨rfl,rfl⟩
  refine ZQ rfl ?_
  dsimp only
  refine ZGe a3 ?_
  obtain ⟨R4,b4,cl4⟩:=a3.desk
  refine ZFe b4 ok.w (by omega) fun s5 d5 h5 b5 w5=>?_
  rw [ht0] at w5
  have hl1:s5.len=1:=w5.1
  have a5:=cl4 h5 (d5::dT::da::(l2++gb::gp::l)) S.d (b5.perm (List.Perm.swap _ _ _))
  refine Zd (by rw [hl1]; rfl) ?_
  refine ZM w5.row (by decide) (by simp) fun q hq'=>?_
  refine Zo (cd:=Zz) (cf:=cI .i64) w5.row (a5.sub (by simp)) rfl hq' (i:=0) rfl rfl (k:=4) (y:=t0.Price) rfl ?_
  refine Zd (by rw [hp0]; rfl) ?_
  refine ZM w5.row (by decide) (by simp) fun q hq'=>?_
  refine Zo (cd:=Zz) (cf:=cI .i64) w5.row (a5.sub (by simp)) rfl hq' (i:=0) rfl rfl (k:=6) (y:=t0.Ask) rfl ?_
  refine Zd (by rw [ha0]; rfl) ?_
  refine ZM wT.row (by decide) (by omega) fun q hq'=>ZO wT.row (a5.sub (by simp)) rfl hq' (i:=0) hs0 (by rfl) ?_
  rw [hl5]
  obtain ⟨V,o9,_⟩:=a5.open
  have hsub:l.Sublist (l2++gb::gp::l):=((List.sublist_cons_self gp l).trans (List.sublist_cons_self gb _)).trans (List.sublist_append_right l2 _)
  exact hq h5 (o9.sublist ((((hsub.cons da).cons dT).cons d5).cons V))
 ·refine ZQ (by rw [hwl,htl]; rfl) ?_
  exact hJ _ _ ⟨rfl,rfl⟩
end
def ZXO (a:ZEh):Msg:=⟨a.Msg_Kind,a.Msg_F_0,a.Msg_F_1,a.Msg_F_2,a.Msg_F_3,a.Msg_F_4,a.Msg_F_5⟩
def ZY2 (S:DS) (a:ZEh) (os:List Out) (T:DS):Prop:=
 if a.Kind=1 then T=(doD S a.Who a.N (ZXO a)).1∧os=(doD S a.Who a.N (ZXO a)).2
 else if a.Kind=3 then T=(ZAU S a.Who).1∧os=(ZAU S a.Who).2
 else ZDX S T∧ZDm os
def ZR1 (a:ZEh):Prop:=ZDp (ZXO a)∧I64 a.N
theorem ZDX.now {S T:DS} {n:Int} (h:ZDX {S with now:=n} T):ZDX S T:=⟨h.bonds,h.parties,h.look,h.books,h.used,h.trades,h.order,h.seq,h.asks⟩
theorem ZDm.append {a b:List Out} (h:ZDm a) (g:ZDm b):ZDm (a++b):=fun o ho=>(List.mem_append.1 ho).elim (h o) (g o)
section
variable {k:DK} {S:DS} {h:Hp} {l:List Hp} {N:Nat}
theorem ZYE {x:ZEh} (a:Zt k S h l) (w:WOk N S) (f:FOk S) (hN:N≤8999) (hx:ZR1 x)
 {Q:Sl→Hp→Prop} (hq:∀ s d os T h',Zt k T h' (d::l)→Own ZCL d s os→ZY2 S x os T→WOk (N+1) T→FOk T→os.length≤1000000→Q s h'):ZA TP 14 [Value.pointer k.p,ZDe.enc x] cSl h Q:=by
 refine c14 (p1:=x) ?_
 unfold F14
 unfold ZY2 at hq
 refine ZD (fun e=>?_) fun e=>?_
 ·have e:x.Kind=1:=by simpa using e
  have hd:=ZXs (who:=x.Who) (seq:=x.N) (m:=ZXO x) w f (by omega) hx.1 hx.2
  have hlo:=ZIr (c:=ZHA S) (who:=x.Who) (m:=ZXO x) w
  have h00:(ZHA S).outs.length=0:=rfl
  refine ZJm (who:=x.Who) (seq:=x.N) (m:=ZXO x) a w (by omega) (by omega) fun s d h' a' w'=>?_
  exact hq s d _ _ h' a' w' (by rw [if_pos e]; exact ⟨rfl,rfl⟩) hd.1 hd.2.1 (by have:=hd.2.2.2; omega)
 have e1:x.Kind≠1:=by simpa using e
 refine ZD (fun e=>?_) fun e=>?_
 ·have e:x.Kind=2:=by simpa using e
  refine ZFw a w f (by omega) fun T s outs d h' a' w' ag wk fk qu oo hl=>?_
  exact hq s d outs T h' a' w' (by rw [if_neg e1,if_neg (by omega)]; exact ⟨ag.now,qu⟩) (wk.mono (by omega)) fk (by omega)
 have e2:x.Kind≠2:=by simpa using e
 refine ZD (fun e=>?_) fun e=>?_
 ·have e:x.Kind=3:=by simpa using e
  refine Go.Proofs.YtkmniidiifpdgaaGreat.ZHV (who:=x.Who) a w (by omega) fun s d h' a' w' wk hl=>?_
  exact hq s d _ _ h' a' w' (by rw [if_neg e1,if_pos e]; exact ⟨rfl,rfl⟩) (wk.mono (by omega)) (ZIV (who:=x.Who) w f).1 (by omega)
 have e3:x.Kind≠3:=by simpa using e
 have hq:∀ s d os T h',Zt k T h' (d::l)→Own ZCL d s os→(ZDX S T∧ZDm os)→WOk (N+1) T→FOk T→os.length≤1000000→Q s h':=fun s d os T h' a1 a2 a3=>hq s d os T h' a1 a2 (by rw [if_neg e1,if_neg e3]; exact a3)
 obtain ⟨D,o,wD⟩:=a
 refine Zb (fun z h'=>∃ (j:Nat) (s:Sl) (T:DS) (d:Hp) (os:List Out),z=(s,(j:Int))∧j≤40∧Zt k T h' (d::l)∧Own ZCL d s os∧ZDX S T∧WOk N T∧FOk T∧ZDm os∧os.length≤20000*j) (fun z=>40-z.2.toNat)
  ⟨0,⟨none,0,0⟩,S,Hp.emp,[],rfl,Nat.zero_le _,⟨D,o.emp.swap,wD⟩,Own.nil _,ZDX.refl S,w,f,(fun o ho=>by cases ho),Nat.le_refl _⟩ ?_
 rintro J z h2 again ⟨j,s,T,d,os,rfl,hj,a2,w2,ag2,wk2,fk2,qu2,hl2⟩
 dsimp only
 refine ZN (fun t h'=>h'=h2∧(t=true→j<40)) ?_ fun J2 hJ2=>?_
 ·rintro t h3 ⟨rfl,ht⟩
  refine ZD (fun e=>?_) fun e=>hq s d os T _ a2 w2 ⟨ag2,qu2⟩ (wk2.mono (by omega)) fk2 (by omega)
  have hj40:=ht e
  rw [ZAH (by omega)]
  refine ZFw a2 wk2 fk2 (by omega) fun T4 s4 outs4 d4 h4 a4 w4 ag4 wk4 fk4 qu4 oo4 hl4=>?_
  obtain ⟨D5,o5,wD5⟩:=a4
  have o6:On h4 (d::D5::d4::l):=o5.pick [2,0,1] 3 (by decide) (by decide)
  refine ZV (cd:=ZCL) (g:=d4) (s:=s) (t:=s4) (xs:=os) (ys:=outs4) o6 rfl w2 (by decide) w4.row (o6.mem (by simp)) ?_ fun d7 p7 n7 m7 h7 o7 w7=>?_
  ·exact Nat.le_trans (Nat.mul_le_mul_right _ (show _≤1000000 by omega)) (by decide)
  ·exact again _ _ ⟨j+1,⟨p7,n7,m7⟩,T4,d7,os++outs4,rfl,by omega,⟨D5,o7.pick [1,0] 3 (by decide) (by decide),wD5⟩,w7,ag2.trans ag4.now,wk4,fk4,qu2.append qu4,by rw [List.length_append]; omega⟩ (by show 40-((j+1:Nat):Int).toNat<40-(j:Int).toNat; omega)
 ·exact ZH (fun _=>hJ2 _ _ ⟨rfl,fun h=>by have:=of_decide_eq_true h; omega⟩) fun _=>hJ2 _ _ ⟨rfl,fun h=>by cases h⟩
theorem ZZR {x:ZEh} {os:List Out} {T:DS} (hu:ZAb S) (r:ZY2 S x os T):ZAb T∧ZAf S T:=by
 unfold ZY2 at r
 split at r
 ·rw [r.1]; exact ZZl hu
 split at r
 ·rw [r.1]; exact ZFG hu (ZB5 S x.Who)
 ·exact ⟨fun b hb=>by
   rw [r.1.books] at hb
   rw [r.1.parties]
   exact hu b hb,r.1.parties,by rw [r.1.bonds],by rw [r.1.books],r.1.look⟩
theorem ZLb (bs:List Bond) (ps:List Z3) (look beat:Int):ZAb (ZDn bs ps look beat):=fun b hb=>by
 have:=List.eq_of_mem_replicate hb
 subst this
 exact ZB3.nil _
theorem ZWQ (bs:List Bond) (ps:List Z3) (look beat:Int):FOk (ZDn bs ps look beat):=by
 refine ⟨fun b hb=>?_,(fun q hq=>by cases hq),fun a ha=>by cases ha⟩
 have:=List.eq_of_mem_replicate hb
 subst this
 exact fun x hx=>by cases hx
end
end Go.Proofs.YtkmniidiifpdgaaGreat
