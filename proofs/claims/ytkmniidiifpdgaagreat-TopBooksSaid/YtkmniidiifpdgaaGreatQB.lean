/- Made by program: of our texts what this law needs (TopBk TopLB). -/
import Derived.Test.YtkmniidiifpdgaaGreatP06
set_option linter.unusedVariables false
namespace Go.Proofs.YtkmniidiifpdgaaGreat
open Go.Eng
set_option maxRecDepth 20000
def a4:Ann:=mkA 32 [(37,5),(87,5),(117,5)] 0 (bc [(5,ZAg)])
def n4:An:=(s0 (.seq (s0 (.cond (s0 .leaf) .leaf)) (s0 (s0 (.seq (s0 (.block (.loop [(7,false,cI .i64)] 324518553658426726783156019535760 (.seq (.join [(27,false,cB)] 267386880 (.reg []) (.cond .leaf .leaf)) (.seq (.block (s0 (s0 (.block (.loop [(8,false,cI .i64)] 324518553658426726783087301107472 (.seq (s0 (.cond .leaf .leaf)) (.seq (.block (s0 (s0 (.seq (.join [(68,false,cB)] 590294684458798809088 (.reg [(0,[]),(1,[]),(2,[]),(3,[]),(4,[]),(5,[]),(6,[]),(7,[]),(8,[]),(9,[]),(10,[]),(11,[]),(13,[]),(14,[]),(15,[]),(12,[]),(16,[]),(17,[]),(18,[])]) (.cond (s0 .leaf) .leaf)) (s0 (.block (.loop [(12,false,cI .i64)] 324518553657836430972797314928656 (.seq (s0 (.cond .leaf .leaf)) (.seq (.block (.join [(107,false,cB)] 324518553620647794920198858866688 (.reg [(0,[]),(1,[]),(2,[]),(3,[]),(4,[]),(5,[]),(6,[]),(7,[]),(8,[]),(9,[]),(10,[]),(12,[]),(13,[]),(14,[]),(11,[]),(15,[]),(16,[]),(17,[]),(18,[]),(19,[]),(20,[]),(21,[]),(22,[]),(23,[]),(24,[]),(25,[]),(26,[]),(27,[]),(28,[]),(29,[]),(30,[]),(31,[]),(32,[])]) (.cond (s0 .leaf) .leaf))) (.reg [])))))))))) (.reg [])))))))) (.reg [])))))) (s0 .leaf))))))
theorem c4 {p0 p1 h Q} (hk:F4 p0 p1 h Q):ZA TP 4 [.int .i64 p0,.slice p1.a p1.len p1.cap] (cB) h Q:=cc a4 n4 hk
theorem ZUn {n:Int} {h:Hp} {Q:Bool→Hp→Prop} (hq:Q (ZBK n) h):ZA TP 59 [Value.int .i64 n] cB h Q:=by
 refine c59 (p0:=n) ?_
 unfold F59
 unfold ZBK at hq
 refine ZD (fun e=>?_) fun e=>?_
 ·have e:n=1:=by simpa using e
  rw [e] at hq
  exact hq
 ·rw [e,Bool.false_or] at hq
  exact hq
theorem ZUG {x:ZE} {h:Hp} {Q:Bool→Hp→Prop} (hx:Zs x=true) (hq:Q true h):ZA TP 21 [ZK.enc x] cB h Q:=by
 refine c21 (p0:=x) ?_
 unfold F21
 unfold Zs at hx
 simp only [Bool.and_eq_true,decide_eq_true_eq] at hx
 obtain ⟨a1,a2,a3,a4,a5,a6,a7,a8⟩:=hx
 refine ZH (fun _=>?_) fun h=>absurd a1 h
 refine ZH (fun _=>?_) fun h=>absurd a2 h
 refine ZH (fun _=>?_) fun h=>absurd a3 h
 refine ZH (fun _=>?_) fun h=>absurd a4 h
 refine ZH (fun _=>?_) fun h=>absurd a5 h
 refine ZH (fun _=>?_) fun h=>absurd a6 h
 refine ZH (fun _=>?_) fun h=>absurd a7 h
 refine ZUn ?_
 rw [a8]
 exact hq
theorem ZLd {g:Hp} {p0:Int} {p1:Sl} {xs:List ZEh} (h1:Row ZDe g p1 xs) (h2:∀ x∈xs,ZR1 x):F4 p0 p1 g (Lawful g):=by
 unfold F4
 have hpl:=h1.1
 refine ZH (fun _=>⟨rfl,Hp.sub_refl _⟩) fun h120=>?_
 have hxl:xs.length≤120:=by omega
 refine ZGa (way:=p0) (On.self g) fun sb sp gb gp h3 o3 rb rp=>?_
 have hr:=ZHn (ZCR .i64 p0 3)
 generalize ZA9 (ZCR .i64 p0 3)=rw0 at*
 obtain ⟨bs,ps,look,beat⟩:=rw0
 dsimp only at hr rb rp ⊢
 have hsb:=rb.1
 have hsp:=rp.1
 refine ZIi o3 (gb:=gb) (gp:=gp) (by simp) rb (by simp) rp hr fun k h4 a4=>?_
 have hi0:=ZDV hr
 have hb0:(ZDn bs ps look beat).books.length=bs.length:=by show (List.replicate _ _).length=_; rw [List.length_replicate]
 refine Zb (fun z h'=>∃ (i:Nat) (S:DS),z=(i:Int)∧i≤xs.length∧Zt k S h' [gb,gp,g]∧WOk i S∧FOk S∧ZAb S∧S.books.length=bs.length∧S.parties=ps) (fun z=>xs.length-z.toNat)
  ⟨0,ZDn bs ps look beat,rfl,Nat.zero_le _,a4,hi0,ZWQ bs ps look beat,ZLb bs ps look beat,hb0,rfl⟩ ?_
 rintro J z h5 again ⟨i,S,rfl,hi,a5,w5,f5,u5,hbl,hps⟩
 refine ZN (fun t h'=>h'=h5∧t=decide (i<xs.length)) ?_ fun J6 hJ6=>?_
 ·rintro t h6 ⟨rfl,rfl⟩
  refine ZH (fun hlt=>?_) fun hge=>?_
  ·have ax:xs[i]?=some xs[i]:=List.getElem?_eq_getElem hlt
   have hx:=h2 _ (List.getElem_mem hlt)
   generalize xs[i]=x at*
   refine ZM h1 (Int.natCast_nonneg i) (by omega) fun q hq'=>ZO h1 (a5.sub (by simp)) rfl hq' (i:=i) ax (by rfl) ?_
   refine ZYE (x:=x) a5 w5 f5 (by omega) hx fun s7 d7 os T h7 a7 wo7 r7 w7 f7 _=>?_
   have a7:=a7.drop
   have hu:=ZZR u5 r7
   have hTb:T.books.length=bs.length:=by rw [hu.2.books,hbl]
   have hTp:T.parties=ps:=by rw [hu.2.parties,hps]
   have uT:=hu.1
   have hb4:=w7.bl4
   refine Zb (fun z h'=>∃ (n:Nat),z=(n:Int)∧n≤bs.length∧Zt k T h' [gb,gp,g]) (fun z=>bs.length-z.toNat) ⟨0,rfl,Nat.zero_le _,a7⟩ ?_
   rintro J2 z h8 again2 ⟨n,rfl,hn,a8⟩
   refine ZH (fun hlt2=>?_) fun hge2=>?_
   ·have hn':n<T.books.length:=by omega
    refine ZDW a8 (fun hf=>absurd hf (by unfold isBond; simp; omega)) fun i2 hi2 c R q e o9 w9 cl=>?_
    have e2:n=i2:=by omega
    subst e2
    have hbk:=uT _ (List.getElem_mem hi2)
    have hok:=w7.books _ (List.getElem_mem hi2)
    rw [hTp] at hbk
    have hx0:({T with books:=T.books.set n T.books[n]}:DS)=T:=by rw [List.set_getElem_self]
    generalize hbe:T.books[n]=b at*
    refine ZDN (s:=1) o9 w9 hok.1 (by have:=hok.2.2.1; omega) fun s10 c10 d10 h10 o10 w10 wd10=>?_
    refine ZDN (s:=2) o10 w10 hok.1 (by have:=hok.2.2.1; omega) fun s11 c11 d11 h11 o11 w11 wd11=>?_
    have hl10:=wd10.1
    have hl11:=wd11.1
    have hlen:=ZBl b 1
    have hb64:=hok.2.2.1
    have o11':On h11 (c11::R::d11::d10::[gb,gp,g]):=o11.pick [0,3,1,2] 4 (by decide) (by decide)
    have a11:=cl h11 c11 (d11::d10::[gb,gp,g]) b o11' w11
    rw [hx0] at a11
    refine ZN (fun t h'=>h'=h11∧t=false) ?_ fun J5 hJ5=>?_
    ·rintro t h12 ⟨rfl,rfl⟩
     refine ZQ rfl ?_
     refine Zb (fun z h'=>∃ m:Nat,z=(m:Int)∧m≤(ZAZ b 1).length∧h'=h12) (fun z=>(ZAZ b 1).length-z.toNat) ⟨0,rfl,Nat.zero_le _,rfl⟩ ?_
     rintro J3 z h13 again3 ⟨m,rfl,hm,rfl⟩
     refine ZH (fun hlt3=>?_) fun hge3=>?_
     ·have hm':m<(ZAZ b 1).length:=by omega
      have ay:(ZAZ b 1)[m]?=some (ZAZ b 1)[m]:=List.getElem?_eq_getElem hm'
      have hy:=hbk.ok _ (Z7.1 (List.getElem_mem hm')).1
      have hyb:=hy.1
      generalize (ZAZ b 1)[m]=y at*
      unfold Zs at hyb
      simp only [Bool.and_eq_true,decide_eq_true_eq] at hyb
      have hgs:d10.sub h13:=o11.mem (by simp)
      rw [ZAH (by omega)]
      refine ZN (fun t h'=>h'=h13∧t=false) ?_ fun J4 hJ4=>?_
      ·rintro t h14 ⟨rfl,rfl⟩
       exact ZQ rfl (again3 _ _ ⟨m+1,rfl,by omega,rfl⟩ (by omega))
      ·refine ZM wd10.row (Int.natCast_nonneg m) (by omega) fun q hq'=>Zo (cd:=ZK) (cf:=cI .i64) wd10.row hgs rfl hq' (i:=m) ay (by rfl) (k:=2) (y:=y.Owner) rfl ?_
       refine ZH (fun hneg=>absurd hneg (by omega)) fun _=>?_
       refine ZM wd10.row (Int.natCast_nonneg m) (by omega) fun q hq'=>Zo (cd:=ZK) (cf:=cI .i64) wd10.row hgs rfl hq' (i:=m) ay (by rfl) (k:=2) (y:=y.Owner) rfl ?_
       refine ZH (fun hneg=>absurd hneg (by have:=hy.2; omega)) fun _=>?_
       refine ZM wd10.row (Int.natCast_nonneg m) (by omega) fun q hq'=>Zo (cd:=ZK) (cf:=cI .i64) wd10.row hgs rfl hq' (i:=m) ay (by rfl) (k:=5) (y:=y.Left) rfl ?_
       refine ZH (fun hneg=>absurd hneg (by omega)) fun _=>?_
       refine ZM wd10.row (Int.natCast_nonneg m) (by omega) fun q hq'=>ZO wd10.row hgs rfl hq' (i:=m) ay (by rfl) ?_
       refine ZUG (x:=y) hy.1 ?_
       exact hJ4 _ _ ⟨rfl,rfl⟩
     ·rw [ZAH (by omega)]
      exact again2 _ _ ⟨n+1,rfl,by omega,a11.drop.drop⟩ (by omega)
    ·refine ZH (fun hp1=>?_) fun _=>hJ5 _ _ ⟨rfl,rfl⟩
     refine ZH (fun hp2=>?_) fun _=>hJ5 _ _ ⟨rfl,rfl⟩
     have l1:0<(ZAZ b 1).length:=by omega
     have l2:0<(ZAZ b 2).length:=by omega
     have a1:(ZAZ b 1)[0]?=some (ZAZ b 1)[0]:=List.getElem?_eq_getElem l1
     have a2:(ZAZ b 2)[0]?=some (ZAZ b 2)[0]:=List.getElem?_eq_getElem l2
     have m1:=Z7.1 (List.getElem_mem l1)
     have m2:=Z7.1 (List.getElem_mem l2)
     have hun:=hbk.unc _ m1.1 _ m2.1 m1.2 m2.2
     refine ZM wd10.row (by decide) (by omega) fun q1 hq1=>?_
     refine ZM wd11.row (by decide) (by omega) fun q2 hq2=>?_
     refine Zo (cd:=ZK) (cf:=cI .i64) wd10.row (o11.mem (by simp)) rfl hq1 (i:=0) a1 rfl (k:=4) (y:=(ZAZ b 1)[0].Price) rfl ?_
     refine Zo (cd:=ZK) (cf:=cI .i64) wd11.row (o11.mem (by simp)) rfl hq2 (i:=0) a2 rfl (k:=4) (y:=(ZAZ b 2)[0].Price) rfl ?_
     exact hJ5 _ _ ⟨rfl,decide_eq_false (by omega)⟩
   ·rw [ZAH (by omega)]
    exact again _ _ ⟨i+1,T,rfl,by omega,a8,w7,f7,hu.1,hTb,hTp⟩ (by omega)
  ·refine Zd rfl ?_
   refine ZDW a5 (fun _=>?_) fun i2 hi2 c R q e _ _ _=>absurd e (by omega)
   refine Zd rfl ?_
   refine ZDW a5 (fun _=>?_) fun i2 hi2 c R q e _ _ _=>absurd e (by omega)
   refine Zd rfl ?_
   obtain ⟨D,o,wD⟩:=a5
   exact ZI2 o fun h' o'=>⟨rfl,o'.mem (by simp)⟩
 ·refine Zd rfl (hJ6 _ _ ⟨rfl,?_⟩)
  rw [decide_eq_decide]
  omega
theorem tacts_of {W:World} {s:Sl} (h:Opn TP W 22 [.slice s.a s.len s.cap]):∃ xs:List ZEh,Row ZDe (ZJj W) s xs∧∀ x∈xs,ZR1 x:=by
 obtain ⟨_,_,_,xs,hr,hx⟩:=ZIx (d:=5) (e:=61) (ls:=[(.i .i64,3),(.i .i64,3),(.i .i64,2),(.i .i64,3),(.i .i64,2),(.i .i64,2),(.i .i64,2),(.i .i64,2),(.i .i64,2),(.i .i64,2)]) (cd:=ZDe)
  (fun x=>⟨x.1,x.2.1,x.2.2.1,x.2.2.2.1,x.2.2.2.2.1,x.2.2.2.2.2.1,x.2.2.2.2.2.2.1,x.2.2.2.2.2.2.2.1,x.2.2.2.2.2.2.2.2.1,x.2.2.2.2.2.2.2.2.2⟩) (fun _=>rfl) h (by kernel_rfl) (by kernel_rfl) (by kernel_rfl)
 refine ⟨xs,hr,fun x hm=>?_⟩
 obtain ⟨y,hy0,_,_,k0,k1,k2,k3,k4,k5,k6,k7⟩:=hx x hm
 subst hy0
 exact ⟨⟨ZET k1,ZET k2,ZET k3,ZET k4,ZET k5,ZET k6,ZET k7⟩,ZET k0⟩
theorem topBooks_law (W:World) (p0:Int) (p1:Sl) (_o0:Opn TP W 3 [.int .i64 p0]) (o1:Opn TP W 22 [.slice p1.a p1.len p1.cap]):F4 p0 p1 (ZJj W) (Lawful (ZJj W)):=by
 obtain ⟨xs,h1,h2⟩:=tacts_of o1
 exact ZLd h1 h2
end Go.Proofs.YtkmniidiifpdgaaGreat
