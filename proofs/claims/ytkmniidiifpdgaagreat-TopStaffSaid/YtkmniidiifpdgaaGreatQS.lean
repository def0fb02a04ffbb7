/- Made by program: of our texts what this law needs (TopSt). -/
import Derived.Test.YtkmniidiifpdgaaGreatP06
set_option linter.unusedVariables false
namespace Go.Proofs.YtkmniidiifpdgaaGreat
open Go.Eng
set_option maxRecDepth 20000
def a7:Ann:=mkA 2688 [(33,11),(36,11),(43,11),(50,11)] 0 (bc [(7,ZAY),(9,ZAg),(11,ZAc)])
def n7:An:=(s0 (.seq (.join [(18,false,cB)] 520192 (.reg []) (.cond (s0 .leaf) .leaf)) (s0 (.seq (.reg [(2,[]),(4,[]),(5,[]),(6,[]),(0,[]),(1,[]),(3,[]),(7,[]),(8,[]),(9,[])]) (s0 (.seq (s0 (.cond (s0 .leaf) .leaf)) (s0 .leaf)))))))
theorem c7 {p0 p1 p2 p3 h Q} (hk:F7 p0 p1 p2 p3 h Q):ZA TP 7 [.int .i64 p0,.int .i64 p1,.int .i64 p2,ZAY.enc p3] (cB) h Q:=cc a7 n7 hk
structure ZPY (ps:List Z3) (S:DS):Prop where
 books:∀ b∈S.books,b=[]
 asks:S.asks=[]
 trades:S.trades=[]
 parties:S.parties=ps
theorem ZB2 {ps:List Z3} {S T:DS} (h:ZPY ps S) (q:ZB8 S T):ZPY ps T:=by
 have e:=q.rest
 have hs:=q.books
 generalize T.books=bs at*
 generalize T.quotes=qs at*
 subst e
 refine ⟨fun b hb=>?_,h.asks,h.trades,h.parties⟩
 obtain ⟨k,hk⟩:=List.getElem?_of_mem hb
 obtain ⟨x,hx,hsub⟩:=hs.2 k b hk
 have:=h.books x (List.mem_of_getElem? hx)
 subst this
 exact List.sublist_nil.1 hsub
theorem ZPj (bs:List Bond) (ps:List Z3) (look beat:Int):ZPY ps (ZDn bs ps look beat):=⟨fun b hb=>List.eq_of_mem_replicate hb,rfl,rfl,rfl⟩
theorem ZWb (w kind:Int) (h:ZSB (ZEV (ZA9 w).2.1 4) kind=true):kind=17:=by
 have hr:ZEV (ZA9 w).2.1 4=3:=by
  unfold ZA9
  split
  ·rfl
  split
  ·rfl
  split
  ·rfl
  ·rfl
 rw [hr] at h
 unfold ZSB at h
 split at h
 ·simp at h
 split at h
 ·simp at h
 split at h
 ·simp at h
 ·simp at h
  exact h
theorem ZTT {ps:List Z3} {S:DS} {seq:Int} {m:Msg} (hps:∀ k,ZSB (ZEV ps 4) k=true→k=17) (h:ZPY ps S):ZPY ps (doD S 4 seq m).1:=by
 have hd:ZPY ps (ZCJ (ZHA S) 4 m).1.d:=by
  unfold ZCJ
  split
  ·exact h
  ·rename_i e
   have hm:ZSz (ZHA S).d 4 m=true:=by simpa using e
   unfold ZSz at hm
   simp only [Bool.and_eq_true] at hm
   have h17:m.Kind=17:=hps _ (by rw [←h.parties]; exact hm.2.2)
   rw [if_neg (by omega),if_neg (by omega),if_neg (by omega),if_neg (by omega),if_neg (by omega),if_neg (by omega)]
   unfold ZHG
   (repeat' split)<;>first|exact h|exact ⟨h.books,h.asks,h.trades,h.parties⟩
 unfold doD
 split<;>exact hd
theorem ZSj {ps:List Z3} (hps:∀ k,ZSB (ZEV ps 4) k=true→k=17) {S T:VS} {fs:List ZP} (a:ZGV 4 S fs T):ZPY ps S.d→ZPY ps T.d:=by
 induction a with
 | nil=>exact id
 | @cons S T U f fs t la ih=>exact fun h=>ih (ZB2 (ZTT hps h) (ZA2 t))
def ZQE (ls:List LS):Prop:=∀ (i:Nat) (y:LS),ls[i]?=some y→i≠4→y.held=[]∧y.s.up=false
theorem ZOQ {st:List LS×List Bool} {o:Out} (h:ZQE st.1):ZQE (ZA1 st o).1:=by
 unfold ZA1
 split
 ·rename_i hn
  have hlt:o.To.toNat<st.1.length:=by omega
  have hg:st.1[o.To.toNat]?=some st.1[o.To.toNat]:=List.getElem?_eq_getElem hlt
  rw [hg]
  dsimp only
  intro i y hy hi4
  by_cases hi:o.To.toNat=i
  ·subst hi
   rw [List.getElem?_set_self hlt] at hy
   cases hy
   have h0:=h _ _ hg hi4
   refine ⟨h0.1,?_⟩
   cases hu:(lsV st.1[o.To.toNat] (ZJI o)).s.up with
   | false=>rfl
   | true=>
     have:=ZVL hu
     rw [h0.2] at this
     cases this
  ·rw [List.getElem?_set_ne hi] at hy
   exact h i y hy hi4
 ·exact h
theorem ZHv:∀ (os:List Out) {st:List LS×List Bool},ZQE st.1→ZQE (os.foldl ZA1 st).1
 | [],_,h=>h
 | o::os,st,h=>by
   rw [List.foldl_cons]
   exact ZHv os (ZOQ h)
theorem ZJ0 {S T:VS} {os:List Out} (t:ZMm S os T) (h:ZQE S.ls):ZQE T.ls:=
 ZJb (P:=fun X=>ZQE X.ls) (fun X os hp=>ZHv os hp) (fun X who hp=>hp) t h
theorem ZP1 {who:Int} {S T:VS} {fs:List ZP} (a:ZGV who S fs T):ZQE S.ls→ZQE T.ls:=by
 induction a with
 | nil=>exact id
 | @cons S T U f fs t la ih=>exact fun h=>ih (ZJ0 t h)
structure ZVF (ps:List Z3) (S:VS):Prop where
 d:ZPY ps S.d
 l:ZQE S.ls
theorem ZVF.clr {ps:List Z3} {S:VS} (h:ZVF ps S):ZVF ps ⟨S.d,S.ls.map clr⟩:=⟨h.d,fun i y hy hi=>by
 rw [List.getElem?_map] at hy
 cases hx:S.ls[i]? with
 | none=>rw [hx] at hy; cases hy
 | some x=>
   rw [hx] at hy
   cases hy
   exact h.l i x hx hi⟩
theorem ZQW {s:SS} {x:ZP} (h:s.up=false):(Zk s x).2.2.2.1=false:=by
 unfold Zk
 split
 ·rfl
 ·rfl
theorem ZO1 {x:LS} {f:ZP} (hw:wfF f) (hh:x.held=[]) (hu:x.s.up=false):(ZBN x (Zm f)).2.1=[]:=by
 unfold ZBN
 rw [hh,List.nil_append,ZGg f hw]
 dsimp only
 rw [List.foldl_cons,List.foldl_nil]
 unfold ZAk
 cases ZDq (ZAQ f) with
 | none=>rfl
 | some y=>
   dsimp only
   rw [ZQW hu]
   rfl
theorem ZFn {ps:List Z3} (hps:∀ k,ZSB (ZEV ps 4) k=true→k=17) {S T:VS} {bs:List Int} {b:Bool} (h:ZVF ps S) (r:DoR S 1 4 bs T b):ZVF ps T:=by
 unfold DoR at r
 rw [if_neg (by decide)] at r
 split at r
 ·rw [r.2]; exact h
 ·rw [if_pos rfl] at r
  obtain ⟨_,x,hx,U,y,la,_,hT⟩:=r
  have hr0:ZQE (S.ls.set 4 (ZBN x bs).1):=fun i z hz hi=>by
   rw [List.getElem?_set_ne (by omega)] at hz
   exact h.l i z hz hi
  have hU:=ZSj hps la h.d
  have hUl:=ZP1 la hr0
  split at hT
  ·exact ⟨ZB2 (ZB2 hU (ZB5 U.d _)) (ZA2 hT),ZJ0 hT hUl⟩
  ·rw [hT]; exact ⟨hU,hUl⟩
theorem ZOm {ps:List Z3} {S T:VS} {who:Int} {f:ZP} {b:Bool} (hne:who≠4) (hw:wfF f) (h:ZVF ps S) (r:DoR S 1 who (Zm f) T b):ZPY ps T.d:=by
 unfold DoR at r
 rw [if_neg (by decide)] at r
 split at r
 ·rw [r.2]; exact h.d
 ·rename_i hn
  have hn:=Classical.not_not.1 hn
  rw [if_pos rfl] at r
  obtain ⟨_,x,hx,U,y,la,_,hT⟩:=r
  have hx0:=h.l _ x hx (by omega)
  rw [ZO1 hw hx0.1 hx0.2] at la
  cases la
  split at hT
  ·exact ZB2 (ZB2 h.d (ZB5 S.d _)) (ZA2 hT)
  ·rw [hT]; exact h.d
theorem ZRW {ps:List Z3} (hps:∀ k,ZSB (ZEV ps 4) k=true→k=17) {S0 S:VS} {R R':List (List (List Int))} {b1 b2:List Int} {f:ZP} {who:Int} (hw:wfF f) (h:ZVF ps S0) (r:ZPZ S0 R [(1,4,b1),(1,4,b2),(1,who,Zm f)] S R'):ZPY ps S.d:=by
 cases r with
 | cons d1 r=>
   have c1:=(ZFn hps h d1).clr
   cases r with
   | cons d2 r=>
     have c2:=(ZFn hps c1 d2).clr
     cases r with
     | cons d3 r=>
       cases r
       by_cases hne:who=4
       ·subst hne
        exact (ZFn hps c2 d3).d
       ·exact (ZOm hne hw c2 d3:ZPY ps _)
theorem ZYz:∀ {la:List (Int×Int×List Int)} {S0 S:VS} {R R':List (List (List Int))},ZPZ S0 R la S R'→ZAb S0.d→ZAb S.d∧ZAf S0.d S.d
 | [],_,_,_,_,r,h=>by
   cases r
   exact ⟨h,ZAf.refl _⟩
 | a::la,_,_,_,_,r,h=>by
   cases r with
   | cons d r=>
     have h1:=ZVW h d
     have h2:=ZYz r h1.1
     exact ⟨h2.1,h1.2.trans h2.2⟩
theorem ZR9 (bs:List Bond) (ps:List Z3) (look beat:Int):ZVF ps (ZEs bs ps look beat):=⟨ZPj bs ps look beat,fun i y hy _=>by
 have:=List.eq_of_mem_replicate (List.mem_of_getElem? hy)
 subst this
 exact ⟨rfl,rfl⟩⟩
section
variable {h:Hp} {l:List Hp}
theorem ZUu {p0:Sl} (hp:p0.len=0) {Q:Bool→Hp→Prop} (hq:Q true h):ZA TP 32 [Value.slice p0.a p0.len p0.cap,Value.slice none 0 0] cB h Q:=by
 refine c32 (p1:=⟨none,0,0⟩) ?_
 unfold F32
 refine ZQ (by rw [hp]; rfl) ?_
 refine Zb (fun z h'=>z=0∧h'=h) (fun z=>0) ⟨rfl,rfl⟩ ?_
 rintro J z h2 again ⟨rfl,rfl⟩
 refine ZH (fun hlt=>absurd hlt (by rw [hp]; decide)) fun _=>hq
end
theorem ZMO {g:Hp} {p0 p1 p2:Int} {m:Msg} (hs:I64 p2) (hm:ZDp m):F7 p0 p1 p2 m g (Lawful g):=by
 unfold F7
 refine ZN (fun t h'=>On h' [g]∧(t=false→0≤p2)) ?_ fun J1 hJ1=>?_
 ·rintro t h1 ⟨o1,ht⟩
  refine ZD (fun _=>⟨rfl,o1.mem (by simp)⟩) fun e=>?_
  refine ZGa (way:=p0) o1 fun sb sp gb gp h3 o3 rb rp=>?_
  have hr:=ZHn (ZCR .i64 p0 3)
  have hps:=ZWb (ZCR .i64 p0 3)
  have hb1:0<(ZA9 (ZCR .i64 p0 3)).1.length:=by
   unfold ZA9
   split
   ·decide
   split
   ·decide
   split
   ·decide
   ·decide
  generalize ZA9 (ZCR .i64 p0 3)=rw0 at*
  obtain ⟨bs,ps,look,beat⟩:=rw0
  dsimp only at hr rb rp hps hb1 ⊢
  refine ZSM o3 fun s1 d1 h4 o4 w1=>?_
  refine ZER (who:=4) (seq:=1) (m:=m) o4 ZGZ hm fun s2 d2 h5 o5 w2=>?_
  refine ZER (who:=p1) (seq:=p2) (m:=m) o5 hs hm fun s3 d3 h6 o6 w3=>?_
  refine ZI (vs:=ZG ZCo [⟨1,4,s1⟩,⟨1,4,s2⟩,⟨1,p1,s3⟩]) o6 fun k7 h7 o7=>?_
  have f1:=ZCG ZGZ hm
  have f2:=ZCG hs hm
  have ai:ZEi (ob k7 (ZG ZCo [⟨1,4,s1⟩,⟨1,4,s2⟩,⟨1,p1,s3⟩]) 87::d3::d2::d1::gb::gp::[g]) [⟨1,4,s1⟩,⟨1,4,s2⟩,⟨1,p1,s3⟩] [Zm (onF 1),Zm (mkF 1 m),Zm (mkF p2 m)]:=by
   refine ⟨rfl,fun i x b hx hb=>?_⟩
   match i,hx,hb with
   | 0,hx,hb=>cases hx; cases hb; exact ⟨ZAa ZGQ,d1,by simp,w1.row⟩
   | 1,hx,hb=>cases hx; cases hb; exact ⟨ZAa f1,d2,by simp,w2.row⟩
   | 2,hx,hb=>cases hx; cases hb; exact ⟨ZAa f2,d3,by simp,w3.row⟩
   | i+3,hx,hb=>simp at hx
  have hlen:ZFz [Zm (onF 1),Zm (mkF 1 m),Zm (mkF p2 m)]≤6500:=by
   have g1:=ZBD ZGQ
   have g2:=ZBD f1
   have g3:=ZBD f2
   unfold ZFz
   simp only [List.map_cons,List.map_nil,List.sum_cons,List.sum_nil]
   omega
  have hrow:Row ZCo (ob k7 (ZG ZCo [⟨1,4,s1⟩,⟨1,4,s2⟩,⟨1,p1,s3⟩]) 87) ⟨some ⟨k7,0,none⟩,3,3⟩ [⟨1,4,s1⟩,⟨1,4,s2⟩,⟨1,p1,s3⟩]:=Zf rfl rfl
  have hac:ZHm [⟨1,4,s1⟩,⟨1,4,s2⟩,⟨1,p1,s3⟩] [Zm (onF 1),Zm (mkF 1 m),Zm (mkF p2 m)]=[(1,4,Zm (onF 1)),(1,4,Zm (mkF 1 m)),(1,p1,Zm (mkF p2 m))]:=rfl
  have hxl:([⟨1,4,s1⟩,⟨1,4,s2⟩,⟨1,p1,s3⟩]:List Act).length≤10:=by show 3≤10; omega
  generalize ([⟨1,4,s1⟩,⟨1,4,s2⟩,⟨1,p1,s3⟩]:List Act)=xs at*
  generalize ob k7 (ZG ZCo xs) 87=gk at*
  refine ZVJ (sb:=sb) (sp:=sp) (pa:=⟨some ⟨k7,0,none⟩,3,3⟩) (look:=look) (beat:=beat) (bs:=bs) (ps:=ps) (xs:=xs) (bss:=[Zm (onF 1),Zm (mkF 1 m),Zm (mkF p2 m)]) o7 (gb:=gb) (gp:=gp) (ga:=gk) (by simp) rb (by simp) rp hr (by simp) hrow ai hxl hlen fun v S R sn tk tss dT h8 a8 wT hts hrun iv hSl hRl=>?_
  rw [hac] at hrun
  have hbare:=ZRW hps f2 (ZR9 bs ps look beat) hrun
  obtain ⟨N,ok,hpot⟩:=iv
  have hNl:N≤9000:=by omega
  refine ZQ rfl ?_
  dsimp only
  refine ZGe a8 ?_
  obtain ⟨R9,b9,cl9⟩:=a8.desk
  refine ZFe b9 ok.w (by omega) fun s10 d10 h10 b10 w10=>?_
  have a10:=cl9 h10 _ S.d (b10.perm (List.Perm.swap _ _ _))
  rw [hbare.trades] at w10
  have hz:s10.len=0:=w10.1
  refine Zd (by rw [hz]; rfl) ?_
  refine ZGe a10 ?_
  obtain ⟨R11,b11,cl11⟩:=a10.desk
  refine ZLe b11 ok.w (by omega) fun s12 d12 h12 b12 w12=>?_
  have a12:=cl11 h12 _ S.d (b12.perm (List.Perm.swap _ _ _))
  rw [hbare.asks] at w12
  refine ZUu w12.1 ?_
  refine Zd rfl ?_
  have hbl:=ok.w.bl
  have hbks:0<S.d.books.length:=by
   have hu:=(ZYz hrun (ZLb bs ps look beat)).2.books
   have e:(ZEs bs ps look beat).d.books.length=bs.length:=by show (List.replicate _ _).length=_; rw [List.length_replicate]
   omega
  refine ZI8 (i:=0) (s:=1) a12 ok.w hbks fun s13 d13 h13 a13 w13=>?_
  have hb0:S.d.books[0]=[]:=hbare.books _ (List.getElem_mem hbks)
  have hz13:s13.len=0:=by
   have:=w13.1
   rw [hb0] at this
   exact this
  refine Zd (by rw [hz13]; rfl) ?_
  obtain ⟨V,oV,_⟩:=a13.open
  exact ZI2 oV fun h' o'=>⟨rfl,o'.mem (by simp)⟩
 ·refine ZVM (On.self g) fun h2 o2=>?_
  refine ZD (fun _=>hJ1 _ _ ⟨o2,fun h=>by cases h⟩) fun _=>hJ1 _ _ ⟨o2,fun h=>?_⟩
  have:=of_decide_eq_false h
  omega
set_option maxRecDepth 20000 in
theorem open_agg_cMsg {W:World} {base:Nat} {v:Value} (o:Opn TP W 59 v.cells.toList) (hv:Value.okWide TP W .any base 59 v):∃ x:Msg,v=ZAY.enc x:=by
 obtain ⟨cs,rfl⟩:=ZOq (P:=Tryz.prog) (W:=W) (r:=.any) (base:=base) (t:=59) (v:=v) (by kernel_rfl) hv
 obtain ⟨y,hy,ok⟩:=ZFH (d:=4) (ls:=[(.i .i64,3),(.i .i64,2),(.i .i64,2),(.i .i64,2),(.i .i64,2),(.i .i64,2),(.i .i64,2)]) o (by kernel_rfl)
 obtain ⟨y1,y2,y3,y4,y5,y6,y7⟩:=y
 have e:cs.toList=[Value.int .i64 y1,Value.int .i64 y2,Value.int .i64 y3,Value.int .i64 y4,Value.int .i64 y5,Value.int .i64 y6,Value.int .i64 y7]:=hy
 refine ⟨⟨y1,y2,y3,y4,y5,y6,y7⟩,?_⟩
 obtain ⟨l⟩:=cs
 have e:l=_:=e
 subst e
 rfl
theorem ZTA {W:World} {x:Msg} (h:Opn TP W 59 (ZAY.enc x).cells.toList):ZDp x:=by
 obtain ⟨y,hy,ok⟩:=ZFH (d:=4) (ls:=[(.i .i64,3),(.i .i64,2),(.i .i64,2),(.i .i64,2),(.i .i64,2),(.i .i64,2),(.i .i64,2)]) h (by kernel_rfl)
 obtain ⟨y1,y2,y3,y4,y5,y6,y7⟩:=y
 obtain ⟨k1,k2,k3,k4,k5,k6,k7⟩:=ok
 have e:(ZAY.enc x).cells.toList=[Value.int .i64 y1,Value.int .i64 y2,Value.int .i64 y3,Value.int .i64 y4,Value.int .i64 y5,Value.int .i64 y6,Value.int .i64 y7]:=hy
 have e':[Value.int .i64 x.Kind,Value.int .i64 x.F_0,Value.int .i64 x.F_1,Value.int .i64 x.F_2,Value.int .i64 x.F_3,Value.int .i64 x.F_4,Value.int .i64 x.F_5]=[Value.int .i64 y1,Value.int .i64 y2,Value.int .i64 y3,Value.int .i64 y4,Value.int .i64 y5,Value.int .i64 y6,Value.int .i64 y7]:=e
 simp only [List.cons.injEq,Value.int.injEq,true_and,and_true] at e'
 obtain ⟨a1,a2,a3,a4,a5,a6,a7⟩:=e'
 unfold ZDp
 rw [a1,a2,a3,a4,a5,a6,a7]
 exact ⟨ZET k1,ZET k2,ZET k3,ZET k4,ZET k5,ZET k6,ZET k7⟩
theorem ZTv {W:World} {n:Int} (h:Opn TP W 2 [.int .i64 n]):I64 n:=by
 obtain ⟨y,hy,ok⟩:=ZFH (d:=4) (ls:=[(.i .i64,2)]) h (by kernel_rfl)
 have e:[Value.int .i64 n]=[Value.int .i64 y]:=hy
 simp only [List.cons.injEq,Value.int.injEq,true_and,and_true] at e
 rw [e]
 exact ZET ok
theorem topStaff_law (W:World) (p0 p1 p2:Int) (p3:Msg) (_o0:Opn TP W 3 [.int .i64 p0]) (_o1:Opn TP W 3 [.int .i64 p1]) (o2:Opn TP W 2 [.int .i64 p2]) (o3:Opn TP W 59 (ZAY.enc p3).cells.toList):F7 p0 p1 p2 p3 (ZJj W) (Lawful (ZJj W)):=
 ZMO (ZTv o2) (ZTA o3)
end Go.Proofs.YtkmniidiifpdgaaGreat
