/- Made by program: of our texts what this law needs (TopLC). -/
import Derived.Test.YtkmniidiifpdgaaGreatP06
set_option linter.unusedVariables false
namespace Go.Proofs.YtkmniidiifpdgaaGreat
open Go.Eng
set_option maxRecDepth 20000
def a6:Ann:=mkA 128 [(24,7),(62,7)] 0 (bc [(7,ZAg)])
def n6:An:=(s0 (s0 (.seq (.join [(28,false,cB)] 536805376 (.reg []) (.cond (s0 .leaf) .leaf)) (s0 (.seq (s0 (.block (.loop [(9,false,cI .i64)] 140735340872192 (.seq (.join [(38,false,cB)] 547608330240 (.reg []) (.cond .leaf .leaf)) (.seq (.block (.reg [])) (.reg [])))))) (.seq (s0 (.cond (s0 .leaf) .leaf)) (s0 (s0 (.seq (s0 (.cond (s0 .leaf) .leaf)) (.seq (s0 (.block (.loop [(11,false,cI .i64)] 9903520313706581446889584704 (.seq (.join [(66,false,cB)] 146997491837372989440 (.reg []) (.cond .leaf .leaf)) (.seq (.block (s0 (s0 (.block (.loop [(13,false,cI .i64)] 9902311388463427570018295872 (.seq (s0 (.cond .leaf .leaf)) (.seq (.block (s0 (.cond (s0 .leaf) .leaf))) (.reg [])))))))) (.reg [])))))) (s0 .leaf)))))))))))
theorem c6 {p0 p1 p2 h Q} (hk:F6 p0 p1 p2 h Q):ZA TP 6 [.int .i64 p0,.slice p1.a p1.len p1.cap,.int .i64 p2] (cB) h Q:=cc a6 n6 hk
theorem ZRs {g:Hp} {p0 p2:Int} {p1:Sl} {xs:List Act} {bss:List (List Int)} (h1:Row ZCo g p1 xs) (ai:ZEi [g] xs bss) (hb:∀ b∈bss,b.length≤140737488351232):F6 p0 p1 p2 g (Lawful g):=by
 unfold F6
 have hpl:=h1.1
 refine ZGa (way:=p0) (On.self g) fun sb sp gb gp h3 o3 rb rp=>?_
 have hr:=ZHn (ZCR .i64 p0 3)
 generalize ZA9 (ZCR .i64 p0 3)=rw0 at*
 obtain ⟨bs,ps,look,beat⟩:=rw0
 dsimp only at hr rb rp ⊢
 have hsb:=rb.1
 have hsp:=rp.1
 have hps8:ps.length≤8:=(ZDV hr).pl
 have hbs4:bs.length≤4:=by
  have:=(ZDV hr).bl4
  have e:(ZDn bs ps look beat).books.length=bs.length:=by show (List.replicate _ _).length=_; rw [List.length_replicate]
  omega
 have hgs:g.sub h3:=o3.mem (by simp)
 refine ZN (fun t h'=>h'=h3∧(t=false→xs.length≤120∧ZFz bss≤6000∧0≤p2∧p2<ps.length)) ?_ fun J6 hJ6=>?_
 ·rintro t h4 ⟨rfl,ht⟩
  refine ZD (fun _=>⟨rfl,hgs⟩) fun e=>?_
  obtain ⟨hx120,hl6,hw0,hw1⟩:=ht e
  obtain ⟨w,rfl⟩:=Int.eq_ofNat_of_zero_le hw0
  refine ZSN o3 (gb:=gb) (gp:=gp) (by simp) rb (by simp) rp hr fun v h5 a5=>?_
  have hls0:(ZEs bs ps look beat).ls.length=ps.length:=by show (List.replicate _ _).length=_; rw [List.length_replicate]
  have hbk0:(ZEs bs ps look beat).d.books.length=bs.length:=by show (List.replicate _ _).length=_; rw [List.length_replicate]
  have iv0:ZKs 0 (ZFz (bss.take 0)) (ZEs bs ps look beat):=by
   refine ⟨0,ZNJ hr,?_⟩
   have:∀ n:Nat,pot (List.replicate n (ZLq beat))=0:=fun n=>by
    induction n with
    | zero=>rfl
    | succ n ih=>
      unfold pot at*
      rw [List.replicate_succ,List.map_cons,List.sum_cons,ih]
      rfl
   show 0+pot (List.replicate ps.length (ZLq beat))≤_
   rw [this]
   exact Nat.zero_le _
  refine Zb (fun z h'=>∃ (i:Nat) (S:VS),z=(i:Int)∧i≤xs.length∧ZBA v S h' [gb,gp,g]∧ZKs i (ZFz (bss.take i)) S∧S.ls.length=ps.length∧ZAb S.d∧S.d.books.length=bs.length) (fun z=>xs.length-z.toNat)
   ⟨0,ZEs bs ps look beat,rfl,Nat.zero_le _,a5,iv0,hls0,ZLb bs ps look beat,hbk0⟩ ?_
  rintro J z h6 again ⟨i,S,rfl,hi,a6,iv6,hl6',u6,hb6⟩
  have hle:=ZIw bss i
  refine ZN (fun t h'=>h'=h6∧t=decide (i<xs.length)) ?_ fun J5 hJ5=>?_
  ·rintro t h7 ⟨rfl,rfl⟩
   refine ZH (fun hlt=>?_) fun hge=>?_
   ·have ax:xs[i]?=some xs[i]:=List.getElem?_eq_getElem hlt
    have hib:i<bss.length:=by rw [←ai.1]; exact hlt
    have ab:bss[i]?=some bss[i]:=List.getElem?_eq_getElem hib
    obtain ⟨hby,gx,hgx,rx⟩:=ai.2 i _ _ ax ab
    have hlt2:=ZE4 ab
    have hle2:=ZIw bss (i+1)
    have hgx:gx∈[gb,gp,g]:=by
         rw [List.mem_singleton] at hgx
         simp [hgx]
    generalize xs[i]=x at*
    refine ZM h1 (Int.natCast_nonneg i) (by omega) fun q hq'=>ZO h1 (a6.sub (by simp)) rfl hq' (i:=i) ax (by rfl) ?_
    refine ZQl (n:=i) (t:=ZFz (bss.take i)) (p1:=x) (g:=gx) (bs:=bss[i]) a6 hgx rx hby iv6 (by omega) (by omega) fun T h8 bb a8 dr iv8 hl8=>?_
    have hu:=ZVW u6 dr
    rw [ZAH (by omega)]
    exact again _ _ ⟨i+1,T,rfl,by omega,a8,by rw [hlt2]; exact iv8,hl8.trans hl6',hu.1,by rw [hu.2.books,hb6]⟩ (by omega)
   ·refine ZQ rfl ?_
    have hwl:w<S.ls.length:=by omega
    refine ZVG a6 (fun hn=>absurd ⟨by omega,by omega⟩ hn) fun w2 hw2 e2=>?_
    have e3:w=w2:=by omega
    subst e3
    refine ZQl (n:=i) (t:=ZFz (bss.take i)) (p1:=⟨3,(w:Int),⟨none,0,0⟩⟩) (g:=g) (bs:=[]) a6 (by simp) ⟨rfl,rfl⟩ (fun b hb=>by cases hb) iv6 (by omega) (by simp only [List.length_nil]; omega) fun T h8 bb a8 dr iv8 hl8=>?_
    have hu:=ZVW u6 dr
    have hc:=ZTd u6 hwl dr
    have hTb:T.d.books.length=bs.length:=by rw [hu.2.books,hb6]
    refine ZVG a8 (fun hn=>absurd ⟨by omega,by omega⟩ hn) fun w3 hw3 e4=>?_
    have e5:w=w3:=by omega
    subst e5
    have hdn:=hc.1 _ (List.getElem?_eq_getElem hw3)
    refine ZQ hdn ?_
    obtain ⟨NT,okT,hpT⟩:=iv8
    generalize hup:S.ls[w].s.up=up at*
    refine Zb (fun z h'=>∃ (k:Nat),z=(k:Int)∧k≤bs.length∧ZBA v T h' [gb,gp,g]) (fun z=>bs.length-z.toNat) ⟨0,rfl,Nat.zero_le _,a8⟩ ?_
    rintro J2 z h9 again2 ⟨k,rfl,hk,a9⟩
    refine ZN (fun t h'=>h'=h9∧(t=true→up=true∧k<bs.length)) ?_ fun J4 hJ4=>?_
    ·rintro t h10 ⟨rfl,ht2⟩
     refine ZD (fun e=>?_) fun e=>?_
     ·obtain ⟨hu1,hk1⟩:=ht2 e
      have hnone:=hc.2 hu1
      have hkT:k<T.d.books.length:=by omega
      refine ZI8 (s:=1) a9 okT.w hkT fun s1 d1 h11 a11 w11=>?_
      refine ZI8 (s:=2) a11 okT.w hkT fun s2 d2 h12 a12 w12=>?_
      have hok:=okT.w.books _ (List.getElem_mem hkT)
      have hnb:=hnone _ (List.getElem_mem hkT)
      generalize T.d.books[k]=b at*
      have hl1:=ZBl b 1
      have hl2:=ZBl b 2
      have h64:=hok.2.2.1
      obtain ⟨V,oV,clV⟩:=a12.open
      have o13:On h12 (d1::V::d2::[gb,gp,g]):=oV.pick [2,0,1] 3 (by decide) (by decide)
      refine ZV (cd:=ZK) (g:=d2) (s:=s1) (t:=s2) (xs:=ZAZ b 1) (ys:=ZAZ b 2) o13 rfl w11 (by decide) w12.row (o13.mem (by simp)) ?_ fun d14 p14 n14 m14 h14 o14 w14=>?_
      ·exact Nat.le_trans (Nat.mul_le_mul_right _ (show _≤1000 by omega)) (by decide)
      have a14:ZBA v T h14 (d14::[gb,gp,g]):=clV _ _ (o14.pick [1,0] 3 (by decide) (by decide))
      have hn14:n14=(ZAZ b 1++ZAZ b 2).length:=w14.1
      have hall:∀ y∈ZAZ b 1++ZAZ b 2,y.Owner≠(w:Int):=fun y hy=>(List.mem_append.1 hy).elim (fun hy=>hnb y (Z7.1 hy).1) fun hy=>hnb y (Z7.1 hy).1
      have hlen:(ZAZ b 1++ZAZ b 2).length≤128:=by rw [List.length_append]; omega
      generalize ZAZ b 1++ZAZ b 2=ys at*
      refine Zb (fun z h'=>∃ m:Nat,z=(m:Int)∧m≤ys.length∧h'=h14) (fun z=>ys.length-z.toNat) ⟨0,rfl,Nat.zero_le _,rfl⟩ ?_
      rintro J3 z h15 again3 ⟨m,rfl,hm,rfl⟩
      refine ZH (fun hlt3=>?_) fun hge3=>?_
      ·have hm':m<ys.length:=by omega
       have ay:ys[m]?=some ys[m]:=List.getElem?_eq_getElem hm'
       have hyo:=hall _ (List.getElem_mem hm')
       generalize ys[m]=y at*
       rw [ZAH (by omega)]
       refine ZM (s:=⟨p14,n14,m14⟩) w14.row (Int.natCast_nonneg m) (by omega) fun q hq'=>Zo (cd:=ZK) (cf:=cI .i64) w14.row (a14.sub (by simp)) rfl hq' (i:=m) ay (by rfl) (k:=2) (y:=y.Owner) rfl ?_
       refine ZQ (by simpa using hyo) ?_
       exact again3 _ _ ⟨m+1,rfl,by omega,rfl⟩ (by omega)
      ·rw [ZAH (by omega)]
       exact again2 _ _ ⟨k+1,rfl,by omega,a14.drop⟩ (by omega)
     ·obtain ⟨V,oV,_⟩:=a9.open
      exact ZI2 oV fun h' o'=>⟨rfl,o'.mem (by simp)⟩
    ·refine ZD (fun e=>hJ4 _ _ ⟨rfl,fun h=>?_⟩) fun e=>hJ4 _ _ ⟨rfl,fun h=>by cases h⟩
     have:=of_decide_eq_true h
     exact ⟨e,by omega⟩
  ·refine Zd rfl (hJ5 _ _ ⟨rfl,?_⟩)
   rw [decide_eq_decide]
   omega
 ·refine ZVr hgs h1 ai hb ?_ fun hx hl=>?_
  ·refine Zd rfl (hJ6 _ _ ⟨rfl,fun h=>by cases h⟩)
  ·refine ZQ rfl ?_
   refine ZH (fun hneg=>hJ6 _ _ ⟨rfl,fun h=>by cases h⟩) fun hneg=>hJ6 _ _ ⟨rfl,fun h=>?_⟩
   have:=of_decide_eq_false h
   exact ⟨hx,hl,by omega,by omega⟩
theorem acts_of {W:World} {s:Sl} (h:Opn TP W 80 [.slice s.a s.len s.cap]):∃ (xs:List Act) (bss:List (List Int)),Row ZCo (ZJj W) s xs∧ZEi [ZJj W] xs bss∧∀ b∈bss,b.length≤140737488351232:=by
 obtain ⟨_,_,_,xs,hr,hx⟩:=ZIx (d:=5) (e:=87) (ls:=[(.i .i64,3),(.i .i64,3),(.sl,85)]) (cd:=ZCo)
  (fun x=>⟨x.1,x.2.1,x.2.2⟩) (fun _=>rfl) h (by kernel_rfl) (by kernel_rfl) (by kernel_rfl)
 have key:∀ x∈xs,∃ bs:List Int,Row (cI .u8) (ZJj W) x.B bs∧Zv bs∧bs.length≤140737488351232:=fun x hm=>by
  obtain ⟨y,hy0,_,_,k0⟩:=hx x hm
  subst hy0
  obtain ⟨bs,b1,b2,b3,_⟩:=ZUf (s:=y.2.2) k0
  exact ⟨bs,b1,b2,b3⟩
 have fin:∀ xs:List Act,(∀ x∈xs,∃ bs:List Int,Row (cI .u8) (ZJj W) x.B bs∧Zv bs∧bs.length≤140737488351232)→∃ bss:List (List Int),ZEi [ZJj W] xs bss∧∀ b∈bss,b.length≤140737488351232:=by
  intro xs
  induction xs with
  | nil=>exact fun _=>⟨[],⟨rfl,fun i x b h=>by simp at h⟩,by simp⟩
  | cons x xs ih=>
    intro hk
    obtain ⟨bss,⟨h1,h2⟩,h3⟩:=ih fun y hy=>hk y (by simp [hy])
    obtain ⟨bs,r1,r2,r3⟩:=hk x (by simp)
    refine ⟨bs::bss,⟨by simp [h1],fun i y b e1 e2=>?_⟩,fun b hb=>?_⟩
    ·cases i with
     | zero=>
       simp only [List.getElem?_cons_zero,Option.some.injEq] at e1 e2
       subst e1; subst e2
       exact ⟨r2,_,by simp,r1⟩
     | succ i=>
       simp only [List.getElem?_cons_succ] at e1 e2
       exact h2 i y b e1 e2
    ·rcases List.mem_cons.1 hb with rfl|hb
     ·exact r3
     ·exact h3 b hb
 obtain ⟨bss,h1,h2⟩:=fin xs key
 exact ⟨xs,bss,hr,h1,h2⟩
theorem topCut_law (W:World) (p0:Int) (p1:Sl) (p2:Int) (_o0:Opn TP W 3 [.int .i64 p0]) (o1:Opn TP W 80 [.slice p1.a p1.len p1.cap]) (_o2:Opn TP W 3 [.int .i64 p2]):F6 p0 p1 p2 (ZJj W) (Lawful (ZJj W)):=by
 obtain ⟨xs,bss,h1,h2,h3⟩:=acts_of o1
 exact ZRs h1 h2 h3
end Go.Proofs.YtkmniidiifpdgaaGreat
