/- Made by program: of our texts what this law needs (TopAT TopAU TopAV TopLB ModS TopOr ModT TopOw TopLO). -/
import Derived.Test.YtkmniidiifpdgaaGreatP05
import Derived.KernelRfl
set_option linter.unusedVariables false
namespace Go.Proofs.YtkmniidiifpdgaaGreat
open Go.Eng
structure FS where
 s:SS
 out:List ZP
def FS.ls (x:FS):LS:=⟨[],0,x.s,x.out.map ZAG⟩
def ZNL (st:SS×List ZP×Bool) (f:ZP):SS×List ZP×Bool:=
 if st.2.1.length<256 then (st.1,st.2.1++[f],st.2.2) else ((ZMF st.1).1,st.2.1,st.2.2||(ZMF st.1).2)
def ZMe (st:SS×List ZP×Bool) (fs:List ZP):SS×List ZP×Bool:=fs.foldl ZNL st
def ZTV (st:SS×List ZP×Bool):SS×List (List Int)×Bool:=(st.1,st.2.1.map ZAG,st.2.2)
theorem ZPQ (st:SS×List ZP×Bool) (f:ZP):ZBn (ZTV st) f=ZTV (ZNL st f):=by
 unfold ZBn ZNL ZTV;dsimp only;rw [List.length_map];split
 .rw [List.map_append]; rfl
 .rfl
theorem ZHA:∀ (fs:List ZP) (st:SS×List ZP×Bool),ZAz (ZTV st) fs=ZTV (ZMe st fs)
 | [],st=>rfl
 | f::fs,st=>by show ZAz (ZBn (ZTV st) f) fs=ZTV (ZMe (ZNL st f) fs);rw [ZPQ,ZHA fs]
def lsF (x:FS) (m:Msg):FS:=
 if (ZAm x.s m).2.2=true then ⟨(ZMe ((ZAm x.s m).1,x.out,false) [(ZAm x.s m).2.1]).1,(ZMe ((ZAm x.s m).1,x.out,false) [(ZAm x.s m).2.1]).2.1⟩ else ⟨(ZAm x.s m).1,x.out⟩
theorem ZZF (x:FS) (m:Msg):lsV x.ls m=(lsF x m).ls:=by
 have h:=ZHA [(ZAm x.s m).2.1] ((ZAm x.s m).1,x.out,false);have e:ZTV ((ZAm x.s m).1,x.out,false)=((ZAm x.s m).1,x.ls.out,false):=rfl;rw [e] at h;unfold lsV ZFq lsF;have e2:x.ls.s=x.s:=rfl;rw [e2];split
 .rw [h]; rfl
 .rfl
def ZEs (st:List FS×Bool) (o:Out):List FS×Bool:=
 if 0<=o.To/\o.To<st.1.length then match st.1[o.To.toNat]? with
  | none=>st
  | some x=>(st.1.set o.To.toNat (lsF x (ZJw o)),st.2||(x.s.up&&!(lsF x (ZJw o)).s.up))
 else st
def ZNw (ls:List FS) (os:List Out):List FS×Bool:=os.foldl ZEs (ls,false)
theorem ZMf (st:List FS×Bool) (o:Out) (h:(ZEs st o).2=false):st.2=false:=by
 unfold ZEs at h;split at h
 .split at h
  .exact h
  .simp only [Bool.or_eq_false_iff] at h;exact h.1
 .exact h
theorem ZGU:∀ (os:List Out) (st:List FS×Bool),(os.foldl ZEs st).2=false->st.2=false
 | [],_,h=>h
 | o::os,st,h=>ZMf st o (ZGU os _ h)
def ZKK (dn:List Bool):Prop:=∀ i:Nat,dn[i]?.getD false=false
theorem ZPt {st:List FS×Bool} {dn:List Bool} {o:Out} (h:(ZEs st o).2=false) (hd:ZKK dn):(ZBP (st.1.map FS.ls,dn) o).1=(ZEs st o).1.map FS.ls∧ZKK (ZBP (st.1.map FS.ls,dn) o).2:=by
 unfold ZEs at h ⊢;unfold ZBP;dsimp only;rw [List.length_map];by_cases hn:0<=o.To/\o.To<st.1.length
 ·rw [if_pos hn] at h ⊢;rw [if_pos hn];rw [List.getElem?_map];cases hx:st.1[o.To.toNat]? with
  | none=>exact ⟨rfl,hd⟩
  | some x=>
    rw [hx] at h;dsimp only [Option.map_some] at h ⊢;simp only [Bool.or_eq_false_iff] at h;rw [ZZF];refine ⟨by rw [List.map_set],λi=>?_⟩;by_cases hi:o.To.toNat=i
    .subst hi;by_cases hl:o.To.toNat<dn.length
     .rw [List.getElem?_set_self hl,hd];exact h.2
     .rw [List.getElem?_eq_none (by rw [List.length_set]; omega)];rfl
    .rw [List.getElem?_set_ne hi];exact hd i
 .rw [if_neg hn,if_neg hn];exact ⟨rfl,hd⟩
theorem ZIn:∀ (os:List Out) {st:List FS×Bool} {dn:List Bool},(os.foldl ZEs st).2=false→ZKK dn→(os.foldl ZBP (st.1.map FS.ls,dn)).1=(os.foldl ZEs st).1.map FS.ls∧ZKK (os.foldl ZBP (st.1.map FS.ls,dn)).2
 | [],st,dn,_,hd=>⟨rfl,hd⟩
 | o::os,st,dn,h,hd=>by
   rw [List.foldl_cons] at h ⊢;rw [List.foldl_cons];have h1:=ZPt (ZGU os _ h) hd;have e:ZBP (st.1.map FS.ls,dn) o=((ZEs st o).1.map FS.ls,(ZBP (st.1.map FS.ls,dn) o).2):=by rw [<-h1.1]
   rw [e];exact ZIn os h h1.2
theorem ZXy {dn:List Bool} (h:ZKK dn):dn.any id=false:=by rw [List.any_eq_false];intro x hx;obtain ⟨i,hi⟩:=List.getElem?_of_mem hx;have:=h i;rw [hi] at this;simpa using this
theorem ZYS {d:DS} {ls:List FS} {os:List Out} {T:VS} (h:(ZNw ls os).2=false) (t:ZRR ⟨d,ls.map FS.ls⟩ os T):T=⟨d,(ZNw ls os).1.map FS.ls⟩:=by
 have h1:=ZIn os (st:=(ls,false)) (dn:=List.replicate (ls.map FS.ls).length false) h (λi=>by
  cases hx:(List.replicate (ls.map FS.ls).length false)[i]? with
  | none=>rfl
  | some x=>rw [List.eq_of_mem_replicate (List.mem_of_getElem? hx)]; rfl)
 unfold ZRR ZA8 at t;dsimp only at t h1;have e:=ZXy h1.2;cases t with
 | done _=>
   show VS.mk d _=VS.mk d _;rw [h1.1];rfl
 | step e2 _=>rw [e] at e2; cases e2
def ZO4 (who:Int):DS->List FS->List ZP->Option (DS×List FS)
 | d,ls,[]=>some (d,ls)
 | d,ls,f::fs=>if (ZNw ls (doD d who f.Seq (ZDZ f)).2).2=true then none else ZO4 who (doD d who f.Seq (ZDZ f)).1 (ZNw ls (doD d who f.Seq (ZDZ f)).2).1 fs
theorem ZVo {who:Int}:∀ (fs:List ZP) {d d':DS} {ls ls':List FS} {T:VS},ZO4 who d ls fs=some (d',ls')→ZJQ who ⟨d,ls.map FS.ls⟩ fs T→T=⟨d',ls'.map FS.ls⟩
 | [],d,d',ls,ls',T,h,a=>by
   unfold ZO4 at h;cases h;cases a;rfl
 | f::fs,d,d',ls,ls',T,h,a=>by
   unfold ZO4 at h;split at h
   .cases h
   ·rename_i hd;cases a with
    | cons t la=>
      have e:=ZYS (by simpa using hd) t;subst e;exact ZVo fs h la
def ZGK (x:FS) (f:ZP):FS×List ZP×Bool:=
 (⟨(ZMe ((Zo x.s f).1,x.out,false) (Zo x.s f).2.1).1,(ZMe ((Zo x.s f).1,x.out,false) (Zo x.s f).2.1).2.1⟩,
   if (Zo x.s f).2.2.2.1=true then [mkF f.Seq (Zo x.s f).2.2.1] else [],
   (Zo x.s f).2.2.2.2||(ZMe ((Zo x.s f).1,x.out,false) (Zo x.s f).2.1).2.2)
theorem ZZD {x:FS} {f:ZP} (hw:wfF f) (hk:okF f=true):ZB7 x.ls (ZAG f)=((ZGK x f).1.ls,(ZGK x f).2.1,(ZGK x f).2.2):=by have h1:=ZJT f hw;have h2:=ZE5 hw hk;have h3:=ZHA (Zo x.s f).2.1 ((Zo x.s f).1,x.out,false);unfold ZB7;have e1:x.ls.held=[]:=rfl;have e2:x.ls.lost=0:=rfl;have e3:x.ls.s=x.s:=rfl;have e4:x.ls.out=x.out.map ZAG:=rfl;rw [e1,e2,e3,e4,List.nil_append,h1];dsimp only;rw [List.foldl_cons,List.foldl_nil];unfold ZAv;rw [h2];dsimp only;have e5:ZTV ((Zo x.s f).1,x.out,false)=((Zo x.s f).1,x.out.map ZAG,false):=rfl;rw [e5] at h3;rw [h3];unfold ZGK ZTV FS.ls;dsimp only;rw [Bool.false_or,List.nil_append]
def ZOU (d:DS) (ls:List FS) (who:Nat) (f:ZP):Option (DS×List FS):=
 match ls[who]? with
 | none=>none
 | some x=>if (ZGK x f).2.2=true then none else match ZO4 (who:Int) d (ls.set who (ZGK x f).1) (ZGK x f).2.1 with
   | none=>none
   | some r=>match r.2[who]? with
     | none=>none
     | some y=>if (ZGK x f).1.s.up=true/\y.s.up=false then none else some r
theorem ZXo {d d':DS} {ls ls':List FS} {who:Nat} {f:ZP} {T:VS} {b:Bool} (hw:wfF f) (hk:okF f=true) (h:ZOU d ls who f=some (d',ls')) (r:DoR ⟨d,ls.map FS.ls⟩ 1 (who:Int) (ZAG f) T b):T=⟨d',ls'.map FS.ls⟩:=by
 unfold ZOU at h;cases hx:ls[who]? with
 | none=>rw [hx] at h; cases h
 | some x=>
   rw [hx] at h;dsimp only at h;have hlt:who<ls.length:=(List.getElem?_eq_some_iff.1 hx).1;split at h
   .cases h
   ·rename_i hdn;have hdn:(ZGK x f).2.2=false:=by simpa using hdn
    cases ha:ZO4 (who:Int) d (ls.set who (ZGK x f).1) (ZGK x f).2.1 with
    | none=>rw [ha] at h; cases h
    | some rr=>
      rw [ha] at h;dsimp only at h;cases hy:rr.2[who]? with
      | none=>rw [hy] at h; cases h
      | some y=>
        rw [hy] at h;dsimp only at h;split at h
        .cases h
        .rename_i hup;cases h;unfold DoR at r;rw [if_neg (by decide),if_neg (by intro hn; exact hn ⟨by omega,by dsimp only; rw [List.length_map]; omega⟩),if_pos rfl] at r;obtain ⟨_,x0,hx0,r⟩:=r;rw [Int.toNat_natCast] at hx0 r;dsimp only at hx0;rw [List.getElem?_map,hx] at hx0;simp only [Option.map_some,Option.some.injEq] at hx0;subst hx0;obtain ⟨U,y0,la,hy0,hT⟩:=r;rw [ZZD hw hk] at la hT;dsimp only at la hT;have e0:(ls.map FS.ls).set who (ZGK x f).1.ls=(ls.set who (ZGK x f).1).map FS.ls:=by rw [List.map_set]
         rw [e0] at la;have e:=ZVo _ ha la;subst e;dsimp only at hy0;rw [List.getElem?_map,hy] at hy0;simp only [Option.map_some,Option.some.injEq] at hy0;subst hy0;rw [if_neg (by
          rintro (h1|⟨h1,h2⟩)
          .rw [hdn] at h1; cases h1
          .exact hup ⟨h1,h2⟩)] at hT
         exact hT
def ZYE:DS→List FS→List (List ZP)→List (Nat×ZP)→Option (DS×List (List ZP))
 | d,_,R,[]=>some (d,R)
 | d,ls,R,a::la=>match ZOU d ls a.1 a.2 with
   | none=>none
   | some r=>ZYE r.1 (r.2.map λx=>⟨x.s,[]⟩) (List.zipWith (λa x=>a++x.out) R r.2) la
theorem ZZI:∀ (la:List (Nat×ZP)) {d d':DS} {ls:List FS} {R Rf:List (List ZP)} {S:VS} {R':List (List (List Int))},(∀ a∈la,wfF a.2∧okF a.2=true)→ZYE d ls R la=some (d',Rf)→
 ZTW ⟨d,ls.map FS.ls⟩ (R.map λr=>r.map ZAG) (la.map λa=>(1,((a.1:Nat):Int),ZAG a.2)) S R'->S.d=d'/\R'=Rf.map λr=>r.map ZAG
 | [],d,d',ls,R,Rf,S,R',_,h,r=>by
   unfold ZYE at h;cases h;cases r;exact ⟨rfl,rfl⟩
 | a::la,d,d',ls,R,Rf,S,R',hw,h,r=>by
   unfold ZYE at h;cases ht:ZOU d ls a.1 a.2 with
   | none=>rw [ht] at h; cases h
   | some rr=>
     rw [ht] at h;dsimp only at h;rw [List.map_cons] at r;cases r with
     | cons dr rest=>
       have e:=ZXo (hw a (by simp)).1 (hw a (by simp)).2 ht dr;subst e;have e1:(rr.2.map FS.ls).map clr=(rr.2.map λx=>(⟨x.s,[]⟩:FS)).map FS.ls:=by rw [List.map_map,List.map_map]; rfl
       have e2:List.zipWith ZP6 (R.map λr=>r.map ZAG) (rr.2.map FS.ls)=(List.zipWith (λa x=>a++x.out) R rr.2).map λr=>r.map ZAG:=by rw [List.zipWith_map,List.map_zipWith];congr 1;funext a x;unfold ZP6 FS.ls;rw [List.map_append]
       dsimp only at rest;rw [e1,e2] at rest;exact ZZI la (λx hx=>hw x (by simp [hx])) h rest
def ZOo:List (Nat×ZP):=[(0,onF 1),(2,onF 1),(0,mkF 1 ZZv),(2,mkF 1 ZOK),(0,mkF 2 ZZz),(2,mkF 2 ZVU)]
def ZKI:Option (DS×List (List ZP)):=ZYE (ZD0 (ZCT 0).1 (ZCT 0).2.1 (ZCT 0).2.2.1 (ZCT 0).2.2.2) (List.replicate 5 ⟨ZW7 50,[]⟩) (List.replicate 5 []) ZOo
def wfB (f:ZP):Bool:=[f.Seq,f.Msg_Kind,f.Msg_F_0,f.Msg_F_1,f.Msg_F_2,f.Msg_F_3,f.Msg_F_4,f.Msg_F_5].all λn=>decide (-9223372036854775808<=n)&&decide (n<=9223372036854775807)
theorem ZYL {f:ZP} (h:wfB f=true):wfF f:=by unfold wfB at h;rw [List.all_eq_true] at h;intro n hn;have:=h n hn;simp only [Bool.and_eq_true,decide_eq_true_eq] at this;exact this
def ZV2:Bool:=match ZKI with
 | none=>false
 | some r=>(r.1.trades.map λt=>(t.Price,t.Ask))==[(100,1)]&&((r.2.map λr=>(ZLk [] [] (r.filter okF)).length)[0]?==some 5)&&r.2.all λr=>r.all wfB
theorem ZQl:ZV2=true:=by kernel_rfl
theorem ZQ6:∃ d' Rf,ZKI=some (d',Rf)∧d'.trades.map (fun t=>(t.Price,t.Ask))=[(100,1)]∧(Rf.map fun r=>(ZLk [] [] (r.filter okF)).length)[0]?=some 5∧∀ r∈Rf,∀ f∈r,wfF f:=by
 have h:=ZQl;unfold ZV2 at h;cases hr:ZKI with
 | none=>rw [hr] at h; cases h
 | some r=>
   rw [hr] at h;simp only [Bool.and_eq_true,beq_iff_eq] at h;refine ⟨r.1,r.2,rfl,h.1.1,h.1.2,λx hx f hf=>?_⟩;exact ZYL (List.all_eq_true.1 (List.all_eq_true.1 h.2 x hx) f hf)
theorem ZVL:∀ a∈ZOo,wfF a.2/\okF a.2=true:=by
 intro a ha;unfold ZOo at ha;simp only [List.mem_cons,List.not_mem_nil,or_false] at ha;rcases ha with rfl|rfl|rfl|rfl|rfl|rfl
 .exact ⟨ZIf,by kernel_rfl⟩
 .exact ⟨ZIf,by kernel_rfl⟩
 .exact ⟨ZC5 ZH8 ZJe,by kernel_rfl⟩
 .exact ⟨ZC5 ZH8 ZFJ,by kernel_rfl⟩
 .exact ⟨ZC5 ZK7 ZI7,by kernel_rfl⟩
 .exact ⟨ZC5 ZK7 ZGr,by kernel_rfl⟩
theorem ZWB:ZCT 0=([ZIB,ZD1],ZD8,3,50):=by kernel_rfl
theorem Zam:ZDH .i64 0 3=0:=by kernel_rfl
theorem ZZ7:ZJI [ZIB,ZD1] ZD8 3 50=⟨ZD0 [ZIB,ZD1] ZD8 3 50,(List.replicate 5 (⟨ZW7 50,[]⟩:FS)).map FS.ls⟩:=by kernel_rfl
theorem ZaB (s1 s2 s3 s4 s5 s6:Sl):ZIG (ZFH s1 s2 s3 s4 s5 s6) (ZPT.map λx=>ZAG x.2)=ZOo.map λa=>(1,((a.1:Nat):Int),ZAG a.2):=by kernel_rfl
theorem ZaE:List.replicate ZD8.length ([]:List (List Int))=(List.replicate 5 ([]:List ZP)).map λr=>r.map ZAG:=by kernel_rfl
theorem Zae:ZOR (ZPT.map λx=>ZAG x.2)<=6500:=by unfold ZOR ZPT;have h1:=ZCi ZIf;have h2:=ZCi (ZC5 ZH8 ZJe);have h3:=ZCi (ZC5 ZH8 ZFJ);have h4:=ZCi (ZC5 ZK7 ZI7);have h5:=ZCi (ZC5 ZK7 ZGr);simp only [List.map_cons,List.map_nil,List.sum_cons,List.sum_nil];omega
theorem ZS8:ZKI=ZYE (ZD0 [ZIB,ZD1] ZD8 3 50) (List.replicate 5 ⟨ZW7 50,[]⟩) (List.replicate 5 []) ZOo:=by unfold ZKI;rw [ZWB]
theorem ZWu:ZC8 [ZIB,ZD1] ZD8 3 50=true:=by kernel_rfl
theorem ZSb {s1 s2 s3 s4 s5 s6:Sl} {S:VS} {R:List (List (List Int))} (r:ZTW (ZJI [ZIB,ZD1] ZD8 3 50) (List.replicate ZD8.length []) (ZIG (ZFH s1 s2 s3 s4 s5 s6) (ZPT.map λx=>ZAG x.2)) S R):
 S.d.trades.map (λt=>(t.Price,t.Ask))=[(100,1)]/\(ZHE R)[0]?=some 5:=by
 obtain ⟨d',Rf,hk,ht,hn,hwf⟩:=ZQ6;rw [ZZ7,ZaB,ZaE] at r;rw [ZS8] at hk;obtain ⟨hSd,hRf⟩:=ZZI ZOo ZVL hk r;rw [hSd];refine ⟨ht,?_⟩;rw [hRf];rw [<-hn];unfold ZHE;rw [List.map_map];congr 1;refine List.map_congr_left λr hr=>?_;show (ZLk [] [] (ZJP (r.map ZAG))).length=_;rw [ZEz r (hwf r hr)]
section
variable {h:Hp} {l:List Hp}
theorem ZUH (o:On h l) {Q:Bool→Hp→Prop} (hq:∀ h',On h' l→Q true h'):ZA TP 18 [] cB h Q:=by
 refine c18 ?_;unfold F18;refine ZOH (way:=0) o λsb sp gb gp h1 o1 rb rp=>?_;rw [Zam,ZWB] at rb rp ⊢;dsimp only at rb rp ⊢;refine ZWn o1 λpa da s1 s2 s3 s4 s5 s6 l2 h2 o2 wa ai=>?_;have ai:=ai.mono (l':=da::(l2++gb::gp::l)) λg hg=>List.mem_cons_of_mem _ hg;have h10:(ZFH s1 s2 s3 s4 s5 s6).length<=10:=by show 6<=10; omega
 have hkr:=λS R=>ZSb (s1:=s1) (s2:=s2) (s3:=s3) (s4:=s4) (s5:=s5) (s6:=s6) (S:=S) (R:=R);have h6:(ZFH s1 s2 s3 s4 s5 s6).length=6:=rfl;generalize hxs:ZFH s1 s2 s3 s4 s5 s6=xs at*;have hl0:=Zae;generalize hbs:(ZPT.map λx=>ZAG x.2)=bss at*;have hr0:=ZWu;have hp5:ZD8.length=5:=rfl;generalize [ZIB,ZD1]=bs at*;generalize ZD8=ps at*;refine ZZn (sb:=sb) (sp:=sp) (pa:=pa) (look:=3) (beat:=50) (bs:=bs) (ps:=ps) (xs:=xs) (bss:=bss) o2 (gb:=gb) (gp:=gp) (ga:=da) (by simp) rb (by simp) rp hr0 (by simp) wa.row ai h10 hl0 λv S R sn tk tss dT h3 a3 wT hts hrun iv hSl hRl=>?_;obtain ⟨htr,htn⟩:=hkr S R hrun;obtain ⟨N,ok,hpot⟩:=iv;have htl:tss.length=5:=by have:=congrArg List.length hts;unfold ZHE at this;rw [List.length_map,List.length_map] at this;omega
 have hwl:=wT.1
 obtain ⟨t0,ht0,hp0,ha0⟩:∃ t0,S.d.trades=[t0]∧t0.Price=100∧t0.Ask=1:=by
  match hS:S.d.trades,htr with
  | [t0],htr=>
    rw [List.map_cons,List.map_nil] at htr;simp only [List.cons.injEq,Prod.mk.injEq,and_true] at htr;exact ⟨t0,rfl,htr.1,htr.2⟩
  | [],htr=>cases htr
  | _::_::_,htr=>simp at htr
 obtain ⟨s0,hs0,hl5⟩:∃ s0,tss[0]?=some s0∧s0.len=5:=by
  rw [<-hts,List.getElem?_map] at htn;cases hz:tss[0]? with
  | none=>rw [hz] at htn; cases htn
  | some s0=>
    rw [hz] at htn;simp only [Option.map_some,Option.some.injEq] at htn;exact ⟨s0,rfl,htn⟩
 refine ZN (λt h'=>t=false/\h'=h3) ?_ λJ hJ=>?_
 .rintro t h' ⟨rfl,rfl⟩;refine ZT rfl ?_;dsimp only;refine ZVI a3 ?_;obtain ⟨R4,b4,cl4⟩:=a3.desk;refine ZJN b4 ok.w (by omega) λs5 d5 h5 b5 w5=>?_;rw [ht0] at w5;have hl1:s5.len=1:=w5.1;have a5:=cl4 h5 (d5::dT::da::(l2++gb::gp::l)) S.d (b5.perm (List.Perm.swap _ _ _));refine Zh (by rw [hl1]; rfl) ?_;refine ZL w5.row (by decide) (by simp) λq hq'=>?_;refine Zg (cd:=Z4) (cf:=cI .i64) w5.row (a5.sub (by simp)) rfl hq' (i:=0) rfl rfl (k:=4) (y:=t0.Price) rfl ?_;refine Zh (by rw [hp0]; rfl) ?_;refine ZL w5.row (by decide) (by simp) λq hq'=>?_;refine Zg (cd:=Z4) (cf:=cI .i64) w5.row (a5.sub (by simp)) rfl hq' (i:=0) rfl rfl (k:=6) (y:=t0.Ask) rfl ?_;refine Zh (by rw [ha0]; rfl) ?_;refine ZL wT.row (by decide) (by omega) λq hq'=>ZO wT.row (a5.sub (by simp)) rfl hq' (i:=0) hs0 (by rfl) ?_;rw [hl5];obtain ⟨V,o9,_⟩:=a5.open;have hsub:l.Sublist (l2++gb::gp::l):=((List.sublist_cons_self gp l).trans (List.sublist_cons_self gb _)).trans (List.sublist_append_right l2 _);exact hq h5 (o9.sublist ((((hsub.cons da).cons dT).cons d5).cons V))
 .refine ZT (by rw [hwl,htl]; rfl) ?_;exact hJ _ _ ⟨rfl,rfl⟩
end
def ZM2 (a:ZEF):Msg:=⟨a.Msg_Kind,a.Msg_F_0,a.Msg_F_1,a.Msg_F_2,a.Msg_F_3,a.Msg_F_4,a.Msg_F_5⟩
def ZYF (S:DS) (a:ZEF) (os:List Out) (T:DS):Prop:=
 if a.Kind=1 then T=(doD S a.Who a.N (ZM2 a)).1/\os=(doD S a.Who a.N (ZM2 a)).2
 else if a.Kind=3 then T=(ZAW S a.Who).1/\os=(ZAW S a.Who).2
 else ZDy S T/\ZDh os
def ZNj (a:ZEF):Prop:=ZE1 (ZM2 a)/\I64 a.N
theorem ZDy.now {S T:DS} {n:Int} (h:ZDy {S with now:=n} T):ZDy S T:=⟨h.bonds,h.parties,h.look,h.books,h.used,h.trades,h.order,h.seq,h.asks⟩
theorem ZDh.append {a b:List Out} (h:ZDh a) (g:ZDh b):ZDh (a++b):=λo ho=>(List.mem_append.1 ho).elim (h o) (g o)
section
variable {k:DK} {S:DS} {h:Hp} {l:List Hp} {N:Nat}
theorem ZYQ {x:ZEF} (a:Zu k S h l) (w:WOk N S) (f:FOk S) (hN:N<=8999) (hx:ZNj x)
 {Q:Sl->Hp->Prop} (hq:∀ s d os T h',Zu k T h' (d::l)->Own ZCJ d s os->ZYF S x os T->WOk (N+1) T->FOk T->os.length<=1000000->Q s h'):ZA TP 14 [Value.pointer k.p,ZBe.enc x] cSl h Q:=by
 refine c14 (p1:=x) ?_;unfold F14;unfold ZYF at hq;refine ZD (λe=>?_) λe=>?_
 .have e:x.Kind=1:=by simpa using e
  have hd:=ZZJ (who:=x.Who) (seq:=x.N) (m:=ZM2 x) w f (by omega) hx.1 hx.2;have hlo:=ZJo (c:=ZEf S) (who:=x.Who) (m:=ZM2 x) w;have h00:(ZEf S).outs.length=0:=rfl;refine ZKC (who:=x.Who) (seq:=x.N) (m:=ZM2 x) a w (by omega) (by omega) λs d h' a' w'=>?_;exact hq s d _ _ h' a' w' (by rw [if_pos e]; exact ⟨rfl,rfl⟩) hd.1 hd.2.1 (by have:=hd.2.2.2; omega)
 have e1:x.Kind≠1:=by simpa using e
 refine ZD (λe=>?_) λe=>?_
 .have e:x.Kind=2:=by simpa using e
  refine ZGH a w f (by omega) λT s outs d h' a' w' ag wk fk qu oo hl=>?_;exact hq s d outs T h' a' w' (by rw [if_neg e1,if_neg (by omega)]; exact ⟨ag.now,qu⟩) (wk.mono (by omega)) fk (by omega)
 have e2:x.Kind≠2:=by simpa using e
 refine ZD (λe=>?_) λe=>?_
 .have e:x.Kind=3:=by simpa using e
  refine Go.Proofs.YtkmniidiifpdgaaGreat.ZHN (who:=x.Who) a w (by omega) λs d h' a' w' wk hl=>?_;exact hq s d _ _ h' a' w' (by rw [if_neg e1,if_pos e]; exact ⟨rfl,rfl⟩) (wk.mono (by omega)) (ZIN (who:=x.Who) w f).1 (by omega)
 have e3:x.Kind≠3:=by simpa using e
 have hq:∀ s d os T h',Zu k T h' (d::l)->Own ZCJ d s os->(ZDy S T/\ZDh os)->WOk (N+1) T->FOk T->os.length<=1000000->Q s h':=λs d os T h' a1 a2 a3=>hq s d os T h' a1 a2 (by rw [if_neg e1,if_neg e3]; exact a3);obtain ⟨D,o,wD⟩:=a;refine Zb (λz h'=>∃ (j:Nat) (s:Sl) (T:DS) (d:Hp) (os:List Out),z=(s,(j:Int))/\j<=40/\Zu k T h' (d::l)/\Own ZCJ d s os/\ZDy S T/\WOk N T/\FOk T/\ZDh os/\os.length<=20000*j) (λz=>40-z.2.toNat)
  ⟨0,⟨none,0,0⟩,S,Hp.emp,[],rfl,Nat.zero_le _,⟨D,o.emp.swap,wD⟩,Own.nil _,ZDy.refl S,w,f,(λo ho=>by cases ho),Nat.le_refl _⟩ ?_
 rintro J z h2 again ⟨j,s,T,d,os,rfl,hj,a2,w2,ag2,wk2,fk2,qu2,hl2⟩
 dsimp only;refine ZN (λt h'=>h'=h2/\(t=true->j<40)) ?_ λJ2 hJ2=>?_
 .rintro t h3 ⟨rfl,ht⟩;refine ZD (λe=>?_) λe=>hq s d os T _ a2 w2 ⟨ag2,qu2⟩ (wk2.mono (by omega)) fk2 (by omega);have hj40:=ht e;rw [ZAQ (by omega)];refine ZGH a2 wk2 fk2 (by omega) λT4 s4 outs4 d4 h4 a4 w4 ag4 wk4 fk4 qu4 oo4 hl4=>?_;obtain ⟨D5,o5,wD5⟩:=a4;have o6:On h4 (d::D5::d4::l):=o5.pick [2,0,1] 3 (by decide) (by decide);refine ZU (cd:=ZCJ) (g:=d4) (s:=s) (t:=s4) (xs:=os) (ys:=outs4) o6 rfl w2 (by decide) w4.row (o6.mem (by simp)) ?_ λd7 p7 n7 m7 h7 o7 w7=>?_
  .exact Nat.le_trans (Nat.mul_le_mul_right _ (show _<=1000000 by omega)) (by decide)
  .exact again _ _ ⟨j+1,⟨p7,n7,m7⟩,T4,d7,os++outs4,rfl,by omega,⟨D5,o7.pick [1,0] 3 (by decide) (by decide),wD5⟩,w7,ag2.trans ag4.now,wk4,fk4,qu2.append qu4,by rw [List.length_append]; omega⟩ (by show 40-((j+1:Nat):Int).toNat<40-(j:Int).toNat; omega)
 .exact ZJ (λ_=>hJ2 _ _ ⟨rfl,λh=>by have:=of_decide_eq_true h; omega⟩) λ_=>hJ2 _ _ ⟨rfl,λh=>by cases h⟩
theorem ZZ5 {x:ZEF} {os:List Out} {T:DS} (hu:ZBa S) (r:ZYF S x os T):ZBa T∧ZB2 S T:=by
 unfold ZYF at r;split at r
 .rw [r.1]; exact Zal hu
 split at r
 .rw [r.1]; exact ZUX hu (ZLJ S x.Who)
 .exact ⟨λb hb=>by
   rw [r.1.books] at hb;rw [r.1.parties];exact hu b hb,r.1.parties,by rw [r.1.bonds],by rw [r.1.books],r.1.look⟩
theorem ZWO (bs:List Bond) (ps:List ZAa) (look beat:Int):ZBa (ZD0 bs ps look beat):=λb hb=>by have:=List.eq_of_mem_replicate hb;subst this;exact ZCF.nil _
theorem ZWZ (bs:List Bond) (ps:List ZAa) (look beat:Int):FOk (ZD0 bs ps look beat):=by refine ⟨λb hb=>?_,(λq hq=>by cases hq),λa ha=>by cases ha⟩;have:=List.eq_of_mem_replicate hb;subst this;exact λx hx=>by cases hx
end
theorem tacts_of {W:World} {s:Sl} (h:Opn TP W 22 [.slice s.a s.len s.cap]):∃ xs:List ZEF,Row ZBe (ZVx W) s xs/\∀ x∈xs,ZNj x:=by
 obtain ⟨_,_,_,xs,hr,hx⟩:=ZTf (d:=5) (e:=61) (ls:=[(.i .i64,3),(.i .i64,3),(.i .i64,2),(.i .i64,3),(.i .i64,2),(.i .i64,2),(.i .i64,2),(.i .i64,2),(.i .i64,2),(.i .i64,2)]) (cd:=ZBe)
  (λx=>⟨x.1,x.2.1,x.2.2.1,x.2.2.2.1,x.2.2.2.2.1,x.2.2.2.2.2.1,x.2.2.2.2.2.2.1,x.2.2.2.2.2.2.2.1,x.2.2.2.2.2.2.2.2.1,x.2.2.2.2.2.2.2.2.2⟩) (λ_=>rfl) h (by kernel_rfl) (by kernel_rfl) (by kernel_rfl)
 refine ⟨xs,hr,λx hm=>?_⟩;obtain ⟨y,hy0,_,_,k0,k1,k2,k3,k4,k5,k6,k7⟩:=hx x hm;subst hy0;exact ⟨⟨ZK8 k1,ZK8 k2,ZK8 k3,ZK8 k4,ZK8 k5,ZK8 k6,ZK8 k7⟩,ZK8 k0⟩
theorem ZQE {S:DS} {id:Int} {n:Nat} (h:ZAi S id=some n):∃ b o,S.books[n]?=some b∧ZQB b id=some o∧o∈b∧o.ID=id:=by
 obtain ⟨b,hb,_,he,_⟩:=ZAk h;have he:(ZQB b id).isSome=true:=he;cases hg:ZQB b id with
 | none=>rw [hg] at he; cases he
 | some o=>
   exact ⟨b,o,hb,hg,List.mem_of_find?_eq_some hg,by have:=List.find?_some hg; simpa using this⟩
theorem ZPi {N:Nat} {x:Int} {c:DC} {who:Int} {m:Msg} (i:WOk N c.d) (hu:ZBa c.d) (hk:m.Kind=6∨m.Kind=7):
 ZAg x (ZAM c who m).1.d+acc x (ZAM c who m).1.outs=ZAg x c.d+acc x c.outs+(if m.Kind=6/\(ZAM c who m).2=0 then (if c.d.order+1=x then m.F_3 else 0) else 0)/\
  (m.Kind=6->(ZAM c who m).2=0->(ZAM c who m).1.id=c.d.order+1)/\c.d.order<=(ZAM c who m).1.d.order/\(m.Kind=6->(ZAM c who m).2=0->(ZAM c who m).1.d.order=c.d.order+1):=by
 unfold ZAM;by_cases h6:m.Kind=6
 ·rw [if_pos h6];have h:=ZQ9 (x:=x) (who:=who) (m:=m) i hu;have h2:=h.2;refine ⟨?_,fun _ h0=>(h2 h0).1,?_,fun _ h0=>(h2 h0).2⟩
  .by_cases h0:(ZA4 c who m).2=0
   .rw [if_pos ⟨h6,h0⟩];rw [if_pos h0] at h;exact h.1
   .rw [if_neg (λe=>h0 e.2)];rw [if_neg h0] at h;exact h.1
  .by_cases h0:(ZA4 c who m).2=0
   .rw [(h2 h0).2]; omega
   .have hd:=(ZBp c who m.F_0 (Zs c who m) m.F_4).1;unfold ZA4 at h0 ⊢;split
    .exact Int.le_refl _
    split
    .exact Int.le_refl _
    split
    .exact Int.le_refl _
    split
    .show c.d.order<=(Zt c who m.F_0 (Zs c who m) m.F_4).1.d.order+1;rw [hd];dsimp only;omega
    .rw [hd];exact Int.le_refl _
 ·rw [if_neg h6,if_neg (fun e=>h6 e.1)];have h7:m.Kind=7:=by omega
  refine ⟨?_,λh=>absurd h h6,?_,λh=>absurd h h6⟩
  ·cases hf:ZAi c.d m.F_0 with
   | none=>dsimp only; omega
   | some n=>
     dsimp only;split
     .dsimp only; omega
     .rw [if_neg (by omega)];obtain ⟨b,o,hb,hg,hm,hid⟩:=ZQE hf;have hn:(n:Int)<c.d.books.length:=by have:=(List.getElem?_eq_some_iff.1 hb).1; omega
      have hba:Zc c.d (n:Int)=b:=by unfold Zc;rw [Int.toNat_natCast,hb]; rfl
      have hset:=ZKP (x:=x) (n:=(n:Int)) ⟨by omega,hn⟩ (ZBC (Zc c.d (n:Int)) m.F_0);have hub:=ZEg hu (n:Int);rw [hba] at hset hub ⊢;have hdr:=ZEV (x:=x) hub.ids hm;rw [hid] at hdr;have hgr:(ZO8 b m.F_0).1.Left=o.Left:=by unfold ZO8; rw [hg]
      unfold ZMD;rw [ZET,ZFV,hgr,hba];show ZAg x (ZA7 c.d (n:Int) (ZBC b m.F_0))+(acc x c.outs+_)=_;omega
  ·cases hf:ZAi c.d m.F_0 with
   | none=>exact Int.le_refl _
   | some n=>
     dsimp only;split
     .exact Int.le_refl _
     .rw [if_neg (by omega)];exact Int.le_refl _
structure ZAd (c c':DC):Prop where
 books:c'.d.books=c.d.books
 order:c'.d.order=c.d.order
 acc:∀ x,acc x c'.outs=acc x c.outs
theorem ZAd.refl (c:DC):ZAd c c:=⟨rfl,rfl,λ_=>rfl⟩
theorem ZAd.tell {c c':DC} (h:ZAd c c') {to kind:Int} {ns:List Int} (h1:kind≠20) (h2:kind≠21):ZAd c (ZBQ c' to kind ns):=⟨h.books,h.order,λx=>by rw [ZET,ZL9 h1 h2,h.acc]; omega⟩
theorem ZAd.same {c c' c'':DC} (h:ZAd c c') (e1:c''.d.books=c'.d.books) (e2:c''.d.order=c'.d.order) (e3:c''.outs=c'.outs):ZAd c c'':=⟨e1.trans h.books,e2.trans h.order,λx=>by rw [e3,h.acc]⟩
theorem ZJW (c:DC) (who:Int) (m:Msg):ZAd c (ZCR c who m).1:=by have h0:∀ q:Za,ZAd c (ZOJ c q):=λq=>(ZAd.refl c).same rfl rfl rfl;unfold ZCR ZID;(repeat' split)<;>first|exact (ZAd.refl c).same rfl rfl rfl|exact (h0 _).tell (by decide) (by decide)
theorem ZaN (c:DC) (a:Ask) (q:Za):ZAd c (ZNp c a q).1:=by unfold ZNp;(repeat' split)<;>first|exact (ZAd.refl c).same rfl rfl rfl|(refine ZAd.tell ?_ (by decide) (by decide); exact (ZAd.refl c).same rfl rfl rfl)
theorem ZQt (c:DC) (who:Int) (m:Msg):ZAd c (ZGg c who m).1:=by unfold ZGg;(repeat' split)<;>first|exact (ZAd.refl c).same rfl rfl rfl|exact ZaN c _ _
theorem ZV6 {c c':DC} (h:ZAd c c') (a:Ask):ZAd c (ZHW c' a):=by unfold ZHW;refine ZAd.tell ?_ (by decide) (by decide);exact h.same rfl rfl rfl
theorem ZOx {c c':DC} (h:ZAd c c') (a:Ask):ZAd c (ZAH c' a):=by
 unfold ZAH;split
 .exact ZV6 (c':=ZFm c' a.Hit) (h.same rfl rfl rfl) a
 .refine ZAd.tell ?_ (by decide) (by decide);exact h.same rfl rfl rfl
theorem ZZH {c c':DC} (h:ZAd c c') (a:Ask) (q:Za):ZAd c (ZXB c' a q):=by
 have h1:ZAd c (ZBQ (ZTb {c' with d:={c'.d with used:=(ZJx c'.d.parties c'.d.used q.Dealer q.Price a.Qty).1}} a.ID 3) a.Client 26 [a.ID,q.Price]):=by refine ZAd.tell ?_ (by decide) (by decide);exact h.same rfl rfl rfl
 unfold ZXB;refine ⟨h1.books,h1.order,λx=>?_⟩;unfold ZE2;dsimp only;rw [ZDQ,ZM7,h1.acc];omega
theorem ZMV (c:DC) (who:Int) (m:Msg):ZAd c (ZDt c who m).1:=by have h0:∀ id:Int,ZAd c {c with id:=id}:=λid=>(ZAd.refl c).same rfl rfl rfl;unfold ZDt;(repeat' split)<;>first|exact (ZAd.refl c).same rfl rfl rfl|exact ZOx (h0 _) _|exact ZZH (h0 _) _ _
theorem ZR7 (c:DC) (who id:Int):ZAd c (ZGe c who id).1:=by
 unfold ZGe;split
 .exact ZV6 (c':={c with id:=id}) ((ZAd.refl c).same rfl rfl rfl) _
 .exact ZAd.refl c
theorem ZR1 (c:DC) (n is:Int):ZAd c (ZGh c n is).1:=by unfold ZGh;(repeat' split)<;>exact (ZAd.refl c).same rfl rfl rfl
theorem ZST (a:Ask):∀ (is:List Nat) {c c':DC},ZAd c c'→ZAd c (is.foldl (ZBf a) c')
 | [],_,_,h=>h
 | i::is,c,c',h=>by
   rw [List.foldl_cons];refine ZST a is ?_;unfold ZBf;split
   .exact h.tell (by decide) (by decide)
   .exact h
theorem ZHs (c:DC) (who:Int) (m:Msg):ZAd c (ZBX c who m).1:=by
 unfold ZBX;(repeat' split)<;>first|exact (ZAd.refl c).same rfl rfl rfl|skip
 exact ZST _ _ ((ZAd.refl c).same rfl rfl rfl)
theorem ZTq {N:Nat} {x:Int} {c:DC} {who:Int} {m:Msg} (i:WOk N c.d) (hu:ZBa c.d) (hk:m.Kind≠8):
 ZAg x (ZAp c who m).1.d+acc x (ZAp c who m).1.outs=ZAg x c.d+acc x c.outs+(if m.Kind=6/\(ZAp c who m).2=0 then (if c.d.order+1=x then m.F_3 else 0) else 0)/\
  (m.Kind=6->(ZAp c who m).2=0->(ZAp c who m).1.id=c.d.order+1)/\c.d.order<=(ZAp c who m).1.d.order/\(m.Kind=6->(ZAp c who m).2=0->(ZAp c who m).1.d.order=c.d.order+1):=by
 have k:∀ {c':DC} {e:Int},m.Kind≠6->ZAd c c'->ZAg x c'.d+acc x c'.outs=ZAg x c.d+acc x c.outs+(if m.Kind=6/\e=0 then (if c.d.order+1=x then m.F_3 else 0) else 0)/\
  (m.Kind=6->e=0->c'.id=c.d.order+1)/\c.d.order<=c'.d.order/\(m.Kind=6->e=0->c'.d.order=c.d.order+1):=λ{c' e} h6 k=>by
  refine ⟨?_,λh=>absurd h h6,by rw [k.order]; exact Int.le_refl _,λh=>absurd h h6⟩
  rw [if_neg (λe=>h6 e.1),k.acc]
  unfold ZAg
  rw [k.books]
  omega
 unfold ZAp;split
 .refine ⟨?_,(λ_ h=>by cases h),Int.le_refl _,λ_ h=>by cases h⟩;rw [if_neg (λe=>by cases e.2)];dsimp only;omega
 split
 .rename_i h;exact ZPi i hu (by omega)
 rename_i h678;have h6:m.Kind≠6:=by omega
 split
 .exact k h6 (ZJW c who m)
 split
 .exact k h6 (ZQt c who m)
 split
 .exact k h6 (ZMV c who m)
 split
 .exact k h6 (ZR7 c who _)
 split
 .exact k h6 (ZHs c who m)
 .exact k h6 (ZR1 c _ _)
theorem ZTo (a b:Int):IntKind.i64.wrap (IntKind.i64.wrap a-b)=IntKind.i64.wrap (a-b):=by simp only [IntKind.wrap,IntKind.signed,IntKind.bits];simp;split<;>split<;>(try split)<;>omega
theorem ZXF {n:Int} (h:I64 n):IntKind.i64.wrap n=n:=by unfold I64 at h;exact w64 (by omega) (by omega)
def ZC0 (ids lefts:List Int) (x n:Int):List Int:=List.zipWith (λi l=>if i=x then IntKind.i64.wrap (l-n) else l) ids lefts
def Zw (f:Int->Int) (ids:List Int):List Int:=ids.map λi=>IntKind.i64.wrap (f i)
theorem ZJt (f:Int→Int) (x n:Int):∀ ids:List Int,ZC0 ids (Zw f ids) x n=Zw (fun i=>f i-if x=i then n else 0) ids
 | []=>rfl
 | i::ids=>by
   have ih:=ZJt f x n ids;unfold ZC0 Zw at*;rw [List.map_cons,List.zipWith_cons_cons,ih,List.map_cons];congr 1;show (if i=x then IntKind.i64.wrap (IntKind.i64.wrap (f i)-n) else IntKind.i64.wrap (f i))=IntKind.i64.wrap (f i-if x=i then n else 0);by_cases e:i=x
   .rw [if_pos e,if_pos e.symm,ZTo]
   .rw [if_neg e,if_neg (λh:x=i=>e h.symm),Int.sub_zero]
theorem ZAw {f g:Int->Int} {ids:List Int} (h:∀ i∈ids,f i=g i):Zw f ids=Zw g ids:=List.map_congr_left λi hi=>by rw [h i hi]
def ZCP (isOrd:Bool) (q:Int) (st:List Int×List Int) (o:Out):List Int×List Int:=
 if o.Msg_Kind=18/\isOrd=true then (st.1++[o.Msg_F_1],st.2++[q])
 else if o.Msg_Kind=20 then (st.1,ZC0 st.1 st.2 o.Msg_F_0 o.Msg_F_2)
 else if o.Msg_Kind=21 then (st.1,ZC0 st.1 st.2 o.Msg_F_0 o.Msg_F_1)
 else st
theorem ZVd {isOrd:Bool} {q:Int} {o:Out} (h:o.Msg_Kind≠18\/isOrd=false) (f:Int->Int) (ids:List Int):ZCP isOrd q (ids,Zw f ids) o=(ids,Zw (λi=>f i-ZLi i o) ids):=by
 unfold ZCP;rw [if_neg (by
  rintro ⟨h1,h2⟩;rcases h with h|h
  .exact h h1
  .rw [h] at h2; cases h2)]
 dsimp only;split
 .rename_i e;rw [ZJt];congr 2;funext i;unfold ZLi;rw [if_pos e]
 .rename_i e1;split
  .rename_i e;rw [ZJt];congr 2;funext i;unfold ZLi;rw [if_neg e1,if_pos e]
  .rename_i e2;congr 2;funext i;unfold ZLi;rw [if_neg e1,if_neg e2,Int.sub_zero]
theorem ZFY {isOrd:Bool} {q:Int}:∀ (os:List Out) (f:Int→Int) (ids:List Int),(∀ o∈os,o.Msg_Kind≠18∨isOrd=false)→os.foldl (ZCP isOrd q) (ids,Zw f ids)=(ids,Zw (fun i=>f i-acc i os) ids)
 | [],f,ids,_=>by
   rw [List.foldl_nil];congr 2;funext i;rw [ZE7,Int.sub_zero]
 | o::os,f,ids,h=>by rw [List.foldl_cons,ZVd (h o (by simp)),ZFY os _ ids λx hx=>h x (by simp [hx])];congr 2;funext i;rw [ZCH];omega
section
variable {h:Hp} {l:List Hp}
theorem ZHn {p0 p1:Sl} {g d:Hp} {ids lefts:List Int} {x n:Int} (o:On h (d::l)) (hg:g∈l) (r:Row (cI .i64) g p0 ids) (w:Own (cI .i64) d p1 lefts) (hlen:ids.length=lefts.length) (hl:ids.length≤1000000000)
 {Q:PUnit->Hp->Prop} (hq:∀ d' h',On h' (d'::l)->Own (cI .i64) d' p1 (ZC0 ids lefts x n)->Q ⟨⟩ h'):ZA TP 22 [Value.slice p0.a p0.len p0.cap,Value.slice p1.a p1.len p1.cap,Value.int .i64 x,Value.int .i64 n] (ZW []) h Q:=by
 refine c22 (p0:=p0) (p1:=p1) (p2:=x) (p3:=n) ?_;unfold F22;have hp0:=r.1;have hp1:=w.1;refine Zb (λz h'=>∃ (i:Nat) (d:Hp),z=(i:Int)/\i<=ids.length/\On h' (d::l)/\Own (cI .i64) d p1 ((ZC0 ids lefts x n).take i++lefts.drop i)) (λz=>ids.length-z.toNat)
  ⟨0,d,rfl,Nat.zero_le _,o,by simpa using w⟩ ?_
 have hll:(ZC0 ids lefts x n).length=ids.length:=by unfold ZC0; rw [List.length_zipWith,hlen,Nat.min_self]
 rintro J z h2 again ⟨i,d,rfl,hi,o2,w2⟩
 refine ZJ (λhlt=>?_) λhge=>?_
 .have hi':i<ids.length:=by omega
  have hil:i<lefts.length:=by omega
  have a0:ids[i]?=some ids[i]:=List.getElem?_eq_getElem hi';have a1:lefts[i]?=some lefts[i]:=List.getElem?_eq_getElem hil;have al:(ZC0 ids lefts x n)[i]?=some (if ids[i]=x then IntKind.i64.wrap (lefts[i]-n) else lefts[i]):=by unfold ZC0;rw [List.getElem?_zipWith,a0,a1]
  have hlen2:((ZC0 ids lefts x n).take i++lefts.drop i).length=lefts.length:=by rw [List.length_append,List.length_take,List.length_drop,hll];omega
  have hcur:((ZC0 ids lefts x n).take i++lefts.drop i)[i]?=some lefts[i]:=by rw [List.getElem?_append_right (by rw [List.length_take]; omega),List.length_take,hll,List.getElem?_drop,Nat.min_eq_left hi,Nat.sub_self,Nat.add_zero];exact a1
  have hset:∀ y,(ZC0 ids lefts x n)[i]?=some y->((ZC0 ids lefts x n).take i++lefts.drop i).set i y=(ZC0 ids lefts x n).take (i+1)++lefts.drop (i+1):=λy hy=>by
   have h1:((ZC0 ids lefts x n).take i).length=i:=by rw [List.length_take,hll]; omega
   rw [List.set_append_right _ _ (by omega),h1,Nat.sub_self,List.drop_eq_getElem_cons hil,List.set_cons_zero,ZCN hy,List.append_assoc];rfl
  generalize ids[i]=id0 at*;generalize lefts[i]=lf at*;rw [ZAQ (by omega)];refine ZN (λ_ h'=>∃ d,On h' (d::l)/\Own (cI .i64) d p1 ((ZC0 ids lefts x n).take (i+1)++lefts.drop (i+1))) ?_ λJ2 hJ2=>?_
  .rintro _ h' ⟨d',o',w'⟩;exact again _ _ ⟨i+1,d',rfl,by omega,o',w'⟩ (by omega)
  refine ZL r (Int.natCast_nonneg i) (by omega) λq hq'=>ZO r (o2.mem (by simp [hg])) rfl hq' (i:=i) a0 (by rfl) ?_;refine ZD (λe=>?_) λe=>?_
  .have e:id0=x:=by simpa using e
   rw [if_pos e] at al;refine ZL w2.row (Int.natCast_nonneg i) (by omega) λq hq'=>ZO w2.row (o2.mem (by simp)) rfl hq' (i:=i) hcur (by rfl) ?_;refine ZL w2.row (Int.natCast_nonneg i) (by omega) λq hq'=>ZBy o2 rfl w2 hq' (i:=i) (by omega) rfl λd' h' o' w'=>?_;exact hJ2 _ _ ⟨d',o',by rw [<-hset _ al]; exact w'⟩
  .have e:id0≠x:=by simpa using e
   rw [if_neg e] at al;refine hJ2 _ _ ⟨d,o2,?_⟩;rw [<-hset _ al];have:((ZC0 ids lefts x n).take i++lefts.drop i).set i lf=(ZC0 ids lefts x n).take i++lefts.drop i:=by obtain ⟨hlt3,he3⟩:=List.getElem?_eq_some_iff.1 hcur;rw [<-he3,List.set_getElem_self]
   rw [this];exact w2
 .have hie:i=ids.length:=by omega
  subst hie;rw [<-hll,List.take_length,hll,hlen,List.drop_length,List.append_nil] at w2;exact hq d h2 o2 w2
end
def ZIK (S:DS):Prop:=∀ b∈S.books,∀ o∈b,o.ID<=S.order
theorem ZH2 {x:Int}:∀ {b:List ZE},(∀ o∈b,o.ID<x)->ZAP x b=0
 | [],_=>rfl
 | o::b,h=>by have h1:=h o (by simp);rw [Z8,if_neg (by omega),ZH2 λy hy=>h y (by simp [hy])];omega
theorem ZMA {x:Int} {S:DS} (h:ZIK S) (hx:S.order<x):ZAg x S=0:=by
 unfold ZAg
 have key:∀ bs:List (List ZE),(∀ b∈bs,∀ o∈b,o.ID<x)→(bs.map (ZAP x)).sum=0:=by
  intro bs;induction bs with
  | nil=>intro _; rfl
  | cons b bs ih=>
    intro hb;rw [List.map_cons,List.sum_cons,ZH2 (hb b (by simp)),ih λy hy=>hb y (by simp [hy])];omega
 exact key _ λb hb o ho=>by have:=h b hb o ho; omega
theorem ZSZ {N:Nat} {c:DC} {who:Int} {m:Msg} (i:WOk N c.d) (h:ZIK c.d):ZIK (ZA4 c who m).1.d:=by
 have hb:=(ZCn c who m.F_0 (Zs c who m) m.F_4).1;have h2:=(ZBp c who m.F_0 (Zs c who m) m.F_4).2.2;have h3:=(ZBp c who m.F_0 (Zs c who m) m.F_4).1;have ho:(Zt c who m.F_0 (Zs c who m) m.F_4).1.d.order=c.d.order:=by rw [h3]
 unfold ZA4;split
 .exact h
 rename_i hbd;have hn:=ZVw hbd;have hmem:Zc c.d m.F_0∈c.d.books:=by rw [ZAc hn]; exact List.getElem_mem _
 split
 .exact h
 split
 .exact h
 split
 .intro b hbm o hob;have hbm:b∈(Zt c who m.F_0 (Zs c who m) m.F_4).1.d.books:=hbm;show o.ID<=(Zt c who m.F_0 (Zs c who m) m.F_4).1.d.order+1;rw [ho];rw [hb] at hbm;rcases List.mem_or_eq_of_mem_set hbm with hbm|hbm
  .have:=h b hbm o hob; omega
  .subst hbm;have hp:=(ZaL (P:=λn=>n<=c.d.order+1) (l:=Zc c.d m.F_0) (o:=ZDv c (Zs c who m)) (how:=m.F_4) (λy hy=>by have:=h _ hmem y hy; show y.ID<=_; omega) (ZBS i hn).2.1 (Int.le_refl _)).1;exact hp o hob
 .rename_i he;rw [h2] at he;have her:=(ZTR (l:=Zc c.d m.F_0) (o:=ZDv c (Zs c who m)) (how:=m.F_4))
  have hw:ZBW (Zc c.d m.F_0) (ZDv c (Zs c who m)) m.F_4≠0:=λe=>he (her.1 e);intro b hbm o hob;rw [ho];rw [hb] at hbm;rcases List.mem_or_eq_of_mem_set hbm with hbm|hbm
  .exact h b hbm o hob
  .subst hbm;unfold ZGN at hob;rw [(her.2 hw).2] at hob;exact h _ hmem o hob
theorem ZU7 {N:Nat} {c:DC} {who:Int} {m:Msg} (i:WOk N c.d) (h:ZIK c.d) (hk:m.Kind≠8):ZIK (ZAp c who m).1.d:=by
 have k:∀ {c':DC},ZAd c c'->ZIK c'.d:=λ{c'} k b hb o ho=>by rw [k.books] at hb;rw [k.order];exact h b hb o ho
 unfold ZAp;split
 .exact h
 split
 ·rename_i hk6;unfold ZAM;by_cases h6:m.Kind=6
  .rw [if_pos h6]; exact ZSZ i h
  ·rw [if_neg h6];cases hf:ZAi c.d m.F_0 with
   | none=>exact h
   | some n=>
     dsimp only;split
     .exact h
     ·try rw [if_neg hk]
      intro b hb o ho;have hb:b∈c.d.books.set (n:Int).toNat (ZBC (Zc c.d (n:Int)) m.F_0):=hb;show o.ID<=c.d.order;rcases List.mem_or_eq_of_mem_set hb with hb|hb
      .exact h b hb o ho
      ·subst hb;have ho:=(Zy _ _).subset ho;unfold Zc at ho;cases hbk:c.d.books[(n:Int).toNat]? with
       | none=>rw [hbk] at ho; cases ho
       | some b0=>
         rw [hbk] at ho;exact h b0 (List.mem_of_getElem? hbk) o ho
 split
 .exact k (ZJW c who m)
 split
 .exact k (ZQt c who m)
 split
 .exact k (ZMV c who m)
 split
 .exact k (ZR7 c who _)
 split
 .exact k (ZHs c who m)
 .exact k (ZR1 c _ _)
theorem ZRc {c:DC} {who n how:Int} {o:ZE} (h:(Zt c who n o how).2≠0):(Zt c who n o how).1.outs=c.outs:=by
 unfold Zt at h ⊢;split
 .rfl
 .rename_i e;rw [if_neg e] at h;exact absurd rfl h
theorem ZQb {c:DC} {who:Int} {m:Msg} (hk:m.Kind≠8) (h:(ZAp c who m).2≠0) (x:Int):acc x (ZAp c who m).1.outs=acc x c.outs:=by
 unfold ZAp at h ⊢;split
 .rfl
 ·rename_i e;rw [if_neg e] at h;split
  ·rename_i e1;rw [if_pos e1] at h;unfold ZAM at h ⊢;by_cases h6:m.Kind=6
   .rw [if_pos h6] at h ⊢;unfold ZA4 at h ⊢;split
    .rfl
    rename_i a1;rw [if_neg a1] at h;split
    .rfl
    rename_i a2;rw [if_neg a2] at h;split
    .rfl
    rename_i a3;rw [if_neg a3] at h;split
    .rename_i a4;rw [if_pos a4] at h;exact absurd rfl h
    .rename_i a4;rw [ZRc a4]
   ·rw [if_neg h6] at h ⊢;cases hf:ZAi c.d m.F_0 with
    | none=>rfl
    | some n=>
      rw [hf] at h;dsimp only at h ⊢;split
      .rfl
      .rename_i a1;rw [if_neg a1,if_neg hk] at h;exact absurd rfl h
  .split
   .exact (ZJW c who m).acc x
   split
   .exact (ZQt c who m).acc x
   split
   .exact (ZMV c who m).acc x
   split
   .exact (ZR7 c who _).acc x
   split
   .exact (ZHs c who m).acc x
   .exact (ZR1 c _ _).acc x
def NA (os:List Out):Prop:=∀ o∈os,o.Msg_Kind≠18
theorem NA.tell {c:DC} (h:NA c.outs) {to kind:Int} {ns:List Int} (hk:kind≠18):NA (ZBQ c to kind ns).outs:=λo ho=>(List.mem_append.1 ho).elim (h o) λe=>by simp only [List.mem_singleton] at e;subst e; exact hk
theorem ZNX {who:Int}:∀ (gs:List ZOs) {c:DC},NA c.outs->NA (gs.foldl (ZB3 who) c).outs
 | [],_,h=>h
 | g::gs,c,h=>by rw [List.foldl_cons];exact ZNX gs (h.tell (by decide))
theorem ZJp {who n:Int} {o:ZE}:∀ (fs:List ZH5) {st:DC×Int},NA st.1.outs→NA (fs.foldl (ZBm who n o) st).1.outs
 | [],_,h=>h
 | f::fs,st,h=>by
   rw [List.foldl_cons];refine ZJp fs ?_;have h1:=(h.tell (to:=f.MakerParty) (kind:=20) (ns:=[f.Maker,f.Price,f.Qty,f.Left]) (by decide)).tell (to:=who) (kind:=20) (ns:=[o.ID,f.Price,f.Qty,IntKind.i64.wrap (st.2-f.Qty)]) (by decide);intro x hx;rcases List.mem_append.1 hx with hx|hx
   .exact h1 x hx
   .unfold ZFf ZYe at hx;simp only [List.mem_cons,List.not_mem_nil,or_false] at hx;rcases hx with rfl|rfl<;>exact (show (28:Int)≠18 by decide)
theorem ZU1 {c:DC} {who n how:Int} {o:ZE} (h:NA c.outs):NA (Zt c who n o how).1.outs:=by
 unfold Zt;split
 .exact h
 .have hg:=λgs=>ZNX (who:=who) (c:=ZH7 c n (doV (Zc c.d n) (ZDv c o) how).1) gs h;dsimp only;split
  .exact (ZJp _ (hg _)).tell (by decide)
  .exact ZJp _ (hg _)
theorem ZXc {S:DS} {who:Int} {m:Msg} (h6:m.Kind=6):NA (ZAp (ZEf S) who m).1.outs:=by
 have h0:NA (ZEf S).outs:=λo ho=>by cases ho
 unfold ZAp;split
 .exact h0
 .rw [if_pos (by omega)];unfold ZAM;rw [if_pos h6];unfold ZA4;(repeat' split)<;>first|exact h0|exact ZU1 h0
theorem ZKm {x who:Int}:∀ (ms:List ZE) (st:List ZE×List Out),(st.1.map fun o=>o.ID).Nodup→(ms.map fun o=>o.ID).Nodup→(∀ m∈ms,m∈st.1)→ZAP x (ms.foldl (ZCZ who) st).1+acc x (ms.foldl (ZCZ who) st).2=ZAP x st.1+acc x st.2
 | [],st,_,_,_=>rfl
 | m::ms,st,hn,hm,hin=>by
   rw [List.map_cons,List.nodup_cons] at hm;rw [List.foldl_cons];have hst:(ZCZ who st m).1.Sublist st.1:=by
    unfold ZCZ;split
    .exact Zy _ _
    .exact List.Sublist.refl _
   rw [ZKm ms (ZCZ who st m) (hn.sublist (hst.map _)) hm.2 λy hy=>?_]
   .unfold ZCZ;split
    .have hd:=ZEV (x:=x) hn (hin m (by simp));dsimp only;rw [ZDQ,ZCH,ZE7,ZFV];omega
    .rfl
   ·have hy1:=hin y (by simp [hy]);unfold ZCZ;split
    .exact (List.mem_eraseP_of_neg (by
      have:y.ID≠m.ID:=λe=>hm.1 (List.mem_map.2 ⟨y,hy,e⟩);simpa using this)).2 hy1
    .exact hy1
theorem ZGY {x who s:Int} {b:List ZE} {os:List Out} (hn:(b.map λo=>o.ID).Nodup):ZAP x (ZAU who s (b,os)).1+acc x (ZAU who s (b,os)).2=ZAP x b+acc x os:=by unfold ZAU;refine ZKm _ (b,os) hn ?_ λm hm=>(ZA0.1 hm).1;have h1:((b.filter λy=>y.Side==s).map λy=>y.ID).Nodup:=hn.sublist (List.filter_sublist.map _);unfold ZBB;exact (((ZBj _).map _).nodup_iff).2 h1
theorem ZJ0 {x who:Int} {b:List ZE} {os:List Out} (hn:(b.map λo=>o.ID).Nodup):ZAP x (ZAA who (b,os)).1+acc x (ZAA who (b,os)).2=ZAP x b+acc x os:=by unfold ZAA;have h1:=ZGY (x:=x) (who:=who) (s:=1) (os:=os) hn;have hs:=(ZCO who 1 (b,os)).1;generalize ZAU who 1 (b,os)=st at*;obtain ⟨b1,os1⟩:=st;have h2:=ZGY (x:=x) (who:=who) (s:=2) (b:=b1) (os:=os1) (hn.sublist (hs.map _));dsimp only at h1;omega
theorem ZG0 {x who:Int}:∀ (bs:List (List ZE)) (st:List (List ZE)×List Out),(∀ b∈bs,(b.map λo=>o.ID).Nodup)->
 ((bs.foldl (ZAN who) st).1.map (ZAP x)).sum+acc x (bs.foldl (ZAN who) st).2=(st.1.map (ZAP x)).sum+acc x st.2+(bs.map (ZAP x)).sum
 | [],st,_=>by simp
 | b::bs,st,h=>by rw [List.foldl_cons,ZG0 bs (ZAN who st b) λy hy=>h y (by simp [hy]),List.map_cons,List.sum_cons];have hb:=ZJ0 (x:=x) (who:=who) (os:=st.2) (h b (by simp));unfold ZAN;dsimp only;rw [List.map_append,List.sum_append];simp only [List.map_cons,List.map_nil,List.sum_cons,List.sum_nil];omega
theorem ZU4 {x who:Int} {S:DS} (hu:ZBa S):ZAg x (ZAW S who).1+acc x (ZAW S who).2=ZAg x S:=by have h:=ZG0 (x:=x) (who:=who) S.books ([],[]) λb hb=>(hu b hb).ids;unfold ZAg;rw [(ZEw S who).1];have e:(ZAW S who).2=(ZBx who S.books).2:=rfl;rw [e];unfold ZBx;simp only [List.map_nil,List.sum_nil,ZE7] at h;omega
theorem ZKE {x:Int}:∀ {os:List Out},ZDh os->acc x os=0
 | [],_=>rfl
 | o::os,h=>by rw [ZCH,ZKE λy hy=>h y (by simp [hy])];have:=h o (by simp);unfold ZLi;rw [if_neg (by omega),if_neg (by omega)];omega
theorem ZUW {N:Nat} {S T:DS} {x:ZEF} {os:List Out} (i:WOk N S) (hu:ZBa S) (hl:ZIK S) (hx:ZNj x) (r:ZYF S x os T) (h8:x.Kind=1→x.Msg_Kind≠8) {ids:List Int} (hid:∀ i∈ids,i≤S.order):
 ∃ ids',os.foldl (ZCP (decide (x.Kind=1/\x.Msg_Kind=6)) x.Msg_F_3) (ids,Zw (λi=>ZAg i S) ids)=(ids',Zw (λi=>ZAg i T) ids')/\(∀ i∈ids',i<=T.order)/\ZIK T:=by
 unfold ZYF at r;by_cases h1:x.Kind=1
 ·rw [if_pos h1] at r;obtain ⟨rfl,rfl⟩:=r;have hk:(ZM2 x).Kind≠8:=h8 h1;have ha:=fun y=>ZTq (x:=y) (c:=ZEf S) (who:=x.Who) (m:=ZM2 x) i hu hk;have hi:=ZU7 (c:=ZEf S) (who:=x.Who) (m:=ZM2 x) i hl hk;have hord:=(ha 0).2.2;unfold doD;by_cases he:(ZAp (ZEf S) x.Who (ZM2 x)).2≠0
  .rw [if_pos he];have hf:=λy=>ZQb (c:=ZEf S) (who:=x.Who) (m:=ZM2 x) hk he y;refine ⟨ids,?_,λj hj=>Int.le_trans (hid j hj) hord.1,hi⟩;dsimp only;rw [ZFY _ _ _ λo ho=>.inl (by rw [List.mem_singleton] at ho; subst ho; show (19:Int)≠18; decide)];congr 1;refine ZAw λj _=>?_;have h2:=(ha j).1;rw [hf j,if_neg (λe=>he e.2)] at h2;rw [ZCH,ZE7,ZL9 (by decide) (by decide)];have h3:ZAg j (ZEf S).d=ZAg j S:=rfl;omega
  ·have he:(ZAp (ZEf S) x.Who (ZM2 x)).2=0:=Classical.not_not.1 he;rw [if_neg (fun h=>h he)];dsimp only;have hack:∀ y id,ZLi y (ZEb x.Who 18 [x.N,id])=0:=fun y id=>ZL9 (by decide) (by decide);by_cases h6:x.Msg_Kind=6
   .have h6':(ZM2 x).Kind=6:=h6;have hide:=(ha 0).2.1 h6' he;have horde:=hord.2 h6' he;have e0:(ZEf S).d.order=S.order:=rfl;rw [e0] at hide horde;rw [hide];rw [show decide (x.Kind=1/\x.Msg_Kind=6)=true from decide_eq_true ⟨h1,h6⟩,List.foldl_cons];have hst:ZCP true x.Msg_F_3 (ids,Zw (λi=>ZAg i S) ids) (ZEb x.Who 18 [x.N,S.order+1])=(ids++[S.order+1],Zw (λi=>ZAg i S+if S.order+1=i then x.Msg_F_3 else 0) (ids++[S.order+1])):=by
     unfold ZCP;rw [if_pos ⟨rfl,rfl⟩];have e1:(ZEb x.Who 18 [x.N,S.order+1]).Msg_F_1=S.order+1:=rfl;rw [e1];unfold Zw;rw [List.map_append,List.map_cons,List.map_nil];show (ids++[S.order+1],ids.map (λi=>IntKind.i64.wrap (ZAg i S))++[x.Msg_F_3])=(ids++[S.order+1],ids.map (λi=>IntKind.i64.wrap (ZAg i S+if S.order+1=i then x.Msg_F_3 else 0))++[IntKind.i64.wrap (ZAg (S.order+1) S+if S.order+1=S.order+1 then x.Msg_F_3 else 0)])
     rw [if_pos rfl,ZMA hl (by omega),Int.zero_add,ZXF (show I64 x.Msg_F_3 from hx.1.2.2.2.2.1)];congr 2;refine List.map_congr_left λj hj=>?_;have:=hid j hj;rw [if_neg (by omega),Int.add_zero]
    rw [hst,ZFY _ _ _ λo ho=>.inl (ZXc h6' o ho)];refine ⟨ids++[S.order+1],?_,λj hj=>?_,hi⟩
    .congr 1;refine ZAw λj _=>?_;have h2:=(ha j).1;rw [if_pos ⟨h6',he⟩] at h2;have h3:ZAg j (ZEf S).d=ZAg j S:=rfl;have h4:acc j (ZEf S).outs=0:=rfl;rw [h3,h4,e0] at h2;have h5:(ZM2 x).F_3=x.Msg_F_3:=rfl;rw [h5] at h2;omega
    .rw [horde];rcases List.mem_append.1 hj with hj|hj
     .have:=hid j hj; omega
     .rw [List.mem_singleton] at hj; omega
   .have h6':¬(ZM2 x).Kind=6:=h6;rw [show decide (x.Kind=1/\x.Msg_Kind=6)=false from decide_eq_false λe=>h6 e.2];refine ⟨ids,?_,λj hj=>Int.le_trans (hid j hj) hord.1,hi⟩;rw [ZFY _ _ _ λo ho=>.inr rfl];congr 1;refine ZAw λj _=>?_;have h2:=(ha j).1;rw [if_neg (λe=>h6' e.1)] at h2;rw [ZCH,hack];have h3:ZAg j (ZEf S).d=ZAg j S:=rfl;have h4:acc j (ZEf S).outs=0:=rfl;omega
 .rw [if_neg h1] at r;rw [show decide (x.Kind=1/\x.Msg_Kind=6)=false from decide_eq_false λe=>h1 e.1];rw [ZFY _ _ _ λo ho=>.inr rfl];by_cases h3:x.Kind=3
  .rw [if_pos h3] at r;obtain ⟨rfl,rfl⟩:=r;have hkp:=ZKh S x.Who;have ho:(ZAW S x.Who).1.order=S.order:=by rw [hkp]
   refine ⟨ids,?_,λj hj=>by rw [ho]; exact hid j hj,λb hb o hob=>?_⟩
   .congr 1;refine ZAw λj _=>?_;have:=ZU4 (x:=j) (who:=x.Who) hu;omega
   .rw [ho];obtain ⟨k,hk⟩:=List.getElem?_of_mem hb;obtain ⟨z,hz,hsub⟩:=(ZHZ S x.Who).2 k b hk;exact hl z (List.mem_of_getElem? hz) o (hsub.subset hob)
  .rw [if_neg h3] at r;obtain ⟨ag,qu⟩:=r;refine ⟨ids,?_,λj hj=>by rw [ag.order]; exact hid j hj,λb hb o hob=>?_⟩
   .congr 1;refine ZAw λj _=>?_;rw [ZKE qu];unfold ZAg;rw [ag.books];omega
   .rw [ag.books] at hb;rw [ag.order];exact hl b hb o hob
theorem ZId {x:Int} {a b:List ZE} (h:a.Perm b):ZAP x a=ZAP x b:=by
 induction h with
 | nil=>rfl
 | cons y _ ih=>rw [Z8,Z8,ih]
 | swap y z l=>simp only [Z8]; omega
 | trans _ _ i1 i2=>exact i1.trans i2
theorem ZMI {x:Int} {n:Int}:∀ {b:List ZE},(∀ o∈b,Zn o=true∧o.Owner<n)→ZAP x (ZBB b 1)+ZAP x (ZBB b 2)=ZAP x b:=by
 intro b hb;unfold ZBB;rw [ZId (ZBj _),ZId (ZBj _)];induction b with
 | nil=>rfl
 | cons o b ih=>
   have ih:=ih λy hy=>hb y (by simp [hy]);have ho:=(hb o (by simp)).1;unfold Zn at ho;simp only [Bool.and_eq_true] at ho;have hs:=ho.2.2.2.2.2.2.2;unfold ZBZ at hs;rw [Z8,List.filter_cons,List.filter_cons];by_cases h1:o.Side=1
   .rw [if_pos (by simp [h1]),if_neg (by simp [h1]),Z8];omega
   .have h2:o.Side=2:=by simpa [h1] using hs
    rw [if_neg (by simp [h2]),if_pos (by simp [h2]),Z8];omega
theorem ZRP {b:Bool} {q:Int} {st:List Int×List Int} (o:Out) (h:st.1.length=st.2.length):(ZCP b q st o).1.length=(ZCP b q st o).2.length/\(ZCP b q st o).1.length<=st.1.length+1:=by
 have hl:∀ x n,(ZC0 st.1 st.2 x n).length=st.1.length:=λx n=>by unfold ZC0; rw [List.length_zipWith,h,Nat.min_self]
 unfold ZCP;split
 .simp [h]
 split
 .exact ⟨(hl _ _).symm,Nat.le_succ _⟩
 split
 .exact ⟨(hl _ _).symm,Nat.le_succ _⟩
 .exact ⟨h,Nat.le_succ _⟩
theorem ZHk {b:Bool} {q:Int}:∀ (os:List Out) {st:List Int×List Int},st.1.length=st.2.length->(os.foldl (ZCP b q) st).1.length=(os.foldl (ZCP b q) st).2.length/\(os.foldl (ZCP b q) st).1.length<=st.1.length+os.length
 | [],_,h=>⟨h,Nat.le_refl _⟩
 | o::os,st,h=>by have h1:=ZRP (b:=b) (q:=q) o h;have h2:=ZHk (b:=b) (q:=q) os h1.1;rw [List.foldl_cons,List.length_cons];exact ⟨h2.1,by omega⟩
theorem ZSt {f:Int->Int} {ids:List Int} {o:ZE} {l:List ZE} {m:Nat} (ho:l[m]?=some o):ZC0 ids (Zw (λi=>f i-ZAP i (l.take m)) ids) o.ID o.Left=Zw (λi=>f i-ZAP i (l.take (m+1))) ids:=by rw [ZJt];refine ZAw λi _=>?_;rw [ZCN ho,ZEN,Z8,ZFS];omega
theorem ZLW {g:Hp} {p0:Int} {p1:Sl} {xs:List ZEF} (h1:Row ZBe g p1 xs) (h2:∀ x∈xs,ZNj x):F5 p0 p1 g (Lawful g):=by
 unfold F5;have hpl:=h1.1;refine ZJ (λ_=>⟨rfl,Hp.sub_refl _⟩) λh120=>?_;have hxl:xs.length<=120:=by omega
 refine ZOH (way:=p0) (On.self g) λsb sp gb gp h3 o3 rb rp=>?_;have hr:=ZSa (ZDH .i64 p0 3);generalize ZCT (ZDH .i64 p0 3)=rw0 at*;obtain ⟨bs,ps,look,beat⟩:=rw0;dsimp only at hr rb rp ⊢;have hsb:=rb.1;have hsp:=rp.1;refine ZIM o3 (gb:=gb) (gp:=gp) (by simp) rb (by simp) rp hr λk h4 a4=>?_;have hi0:=ZFR hr;have hb0:(ZD0 bs ps look beat).books.length=bs.length:=by show (List.replicate _ _).length=_; rw [List.length_replicate]
 have hids0:ZIK (ZD0 bs ps look beat):=λb hb o ho=>by have:=List.eq_of_mem_replicate hb;subst this;cases ho
 obtain ⟨D4,o4,wD4⟩:=a4;refine Zb (λz h'=>∃ (i:Nat) (S:DS) (s1 s2:Sl) (dI dL:Hp) (ids:List Int),z=(s1,s2,(i:Int))/\i<=xs.length/\Zu k S h' (dI::dL::[gb,gp,g])/\Own (cI .i64) dI s1 ids/\Own (cI .i64) dL s2 (Zw (λi=>ZAg i S) ids)/\ids.length<=1000000*i/\(∀ j∈ids,j<=S.order)/\ZIK S/\WOk i S/\FOk S/\ZBa S/\S.books.length=bs.length) (λz=>xs.length-z.2.2.toNat)
  ⟨0,ZD0 bs ps look beat,⟨none,0,0⟩,⟨none,0,0⟩,Hp.emp,Hp.emp,[],rfl,Nat.zero_le _,⟨D4,o4.emp.emp.pick [2,0,1] 3 (by decide) (by decide),wD4⟩,Own.nil _,Own.nil _,Nat.zero_le _,(λj hj=>by cases hj),hids0,hi0,ZWZ bs ps look beat,ZWO bs ps look beat,hb0⟩ ?_
 rintro J z h5 again ⟨i,S,s1,s2,dI,dL,ids,rfl,hi,a5,wI,wL,hil,hio,hid,w5,f5,u5,hbl⟩
 dsimp only;refine ZN (λt h'=>h'=h5/\t=decide (i<xs.length)) ?_ λJ6 hJ6=>?_
 ·rintro t h6 ⟨rfl,rfl⟩;refine ZJ (fun hlt=>?_) fun hge=>?_
  ·have ax:xs[i]?=some xs[i]:=List.getElem?_eq_getElem hlt;have hx:=h2 _ (List.getElem_mem hlt);generalize xs[i]=x at*;have hg6:g.sub h6:=a5.sub (by simp);refine ZN (fun t h'=>h'=h6∧t=decide (x.Kind=1∧x.Msg_Kind=8)) ?_ fun J7 hJ7=>?_
   ·rintro t h7 ⟨rfl,rfl⟩;refine ZJ (fun _=>⟨rfl,hg6⟩) fun h18=>?_;refine ZL h1 (Int.natCast_nonneg i) (by omega) fun q hq'=>ZO h1 hg6 rfl hq' (i:=i) ax (by rfl) ?_;refine ZYQ (x:=x) a5 w5 f5 (by omega) hx fun s7 d7 os T h7 a7 wo7 r7 w7 f7 hos=>?_;have hu:=ZZ5 u5 r7;obtain ⟨ids',hfold,hio',hid'⟩:=ZUW w5 u5 hid hx r7 (fun e1 e2=>h18 ⟨e1,e2⟩) hio;obtain ⟨D7,o7,wD7⟩:=a7;have hol:=wo7.1;have hll:ids.length=(Zw (fun i=>ZAg i S) ids).length:=by unfold Zw; rw [List.length_map]
    generalize hst0:(ids,Zw (λi=>ZAg i S) ids)=st0 at hfold;have hl0:st0.1.length=st0.2.length:=by rw [<-hst0]; exact hll
    have hl1:st0.1.length=ids.length:=by rw [<-hst0]
    generalize hb:decide (x.Kind=1/\x.Msg_Kind=6)=isO at hfold;have w10:Own (cI .i64) dI s1 st0.1:=by rw [<-hst0]; exact wI
    have w20:Own (cI .i64) dL s2 st0.2:=by rw [<-hst0]; exact wL
    refine Zb (fun z h'=>∃ (m:Nat) (s1 s2:Sl) (dI dL:Hp),z=(s1,s2,(m:Int))∧m≤os.length∧On h' (dI::dL::D7::d7::[gb,gp,g])∧Own (cI .i64) dI s1 ((os.take m).foldl (ZCP isO x.Msg_F_3) st0).1∧Own (cI .i64) dL s2 ((os.take m).foldl (ZCP isO x.Msg_F_3) st0).2) (fun z=>os.length-z.2.2.toNat)
         ⟨0,s1,s2,dI,dL,rfl,Nat.zero_le _,o7.pick [2,3,0,1] 4 (by decide) (by decide),w10,w20⟩ ?_
    clear w10 w20;rintro J2 z h8 again2 ⟨m,t1,t2,eI,eL,rfl,hm,o8,v1,v2⟩;dsimp only;refine ZJ (λhlt2=>?_) λhge2=>?_
    ·have hm':m<os.length:=by omega
     have ao:os[m]?=some os[m]:=List.getElem?_eq_getElem hm';have hd7:d7.sub h8:=o8.mem (by simp);have hg8:g.sub h8:=o8.mem (by simp);have htk:=ZHk (b:=isO) (q:=x.Msg_F_3) (os.take m) hl0;have htl:(os.take m).length=m:=by rw [List.length_take]; omega
     have hnext:(os.take (m+1)).foldl (ZCP isO x.Msg_F_3) st0=ZCP isO x.Msg_F_3 ((os.take m).foldl (ZCP isO x.Msg_F_3) st0) os[m]:=by rw [ZCN ao,List.foldl_append]; rfl
     generalize (os.take m).foldl (ZCP isO x.Msg_F_3) st0=st at*;generalize os[m]=o at*;refine ZL wo7.row (Int.natCast_nonneg m) (by omega) λq2 hq2=>Zg (cd:=ZCJ) (cf:=ZD5) wo7.row hd7 rfl hq2 (i:=m) ao (by rfl) (k:=2) (y:=⟨o.Msg_F_0,o.Msg_F_1,o.Msg_F_2,o.Msg_F_3,o.Msg_F_4,o.Msg_F_5⟩) rfl ?_;dsimp only;refine ZN (λz h'=>∃ (s1 s2:Sl) (dI dL:Hp),z=(s1,s2)/\On h' (dI::dL::D7::d7::[gb,gp,g])/\Own (cI .i64) dI s1 (ZCP isO x.Msg_F_3 st o).1/\Own (cI .i64) dL s2 (ZCP isO x.Msg_F_3 st o).2) ?_ λJ3 hJ3=>?_
     .rintro z h9 ⟨s1,s2,dI,dL,rfl,o9,w1,w2⟩;rw [ZAQ (by omega)];exact again2 _ _ ⟨m+1,s1,s2,dI,dL,rfl,by omega,o9,by rw [hnext]; exact w1,by rw [hnext]; exact w2⟩ (by show os.length-((m+1:Nat):Int).toNat<os.length-(m:Int).toNat; omega)
     ·refine ZN (fun t h'=>h'=h8∧t=decide (o.Msg_Kind=18∧isO=true)) ?_ fun J4 hJ4=>?_
      ·rintro t h9 ⟨rfl,rfl⟩;refine ZJ (fun hap=>?_) fun hno=>?_
       .have fin:∀ a1 n1 m1 a2 n2 m2 h' dI' dL',On h' (dI'::dL'::D7::d7::[gb,gp,g])->Own (cI .i64) dI' ⟨a1,n1,m1⟩ (st.1++[o.Msg_F_1])->Own (cI .i64) dL' ⟨a2,n2,m2⟩ (st.2++[x.Msg_F_3])->J3 (⟨a1,n1,m1⟩,⟨a2,n2,m2⟩) h':=λa1 n1 m1 a2 n2 m2 h' dI' dL' o' w1 w2=>by refine hJ3 _ _ ⟨_,_,dI',dL',rfl,o',?_,?_⟩<;>(unfold ZCP; rw [if_pos hap])<;>assumption
        refine ⟨⟨by decide,by decide,?_⟩,⟨by decide,by decide,?_⟩⟩
        .refine ZL h1 (Int.natCast_nonneg i) (by omega) λq3 hq3=>⟨by decide,by decide,?_⟩
         refine ZH o8 λk1 h10 o10=>?_;refine ZU (cd:=cI .i64) (g:=ob k1 (ZG (cI .i64) [o.Msg_F_1]) 2) (s:=t1) (t:=⟨some ⟨k1,0,none⟩,1,1⟩) (ys:=[o.Msg_F_1]) (o10.pick [1,0,2] 3 (by decide) (by decide)) rfl v1 (by decide) (Ze rfl rfl) (o10.get (i:=0) rfl) ?_ λd11 p11 n11 m11 h11 o11 w11=>?_
         .exact Nat.le_trans (Nat.mul_le_mul_right _ (show _<=1000000000 by simp only [List.length_cons,List.length_nil]; omega)) (by decide)
         have o11:=o11.pick [0,2,3,4] 5 (by decide) (by decide);refine Zg (cd:=ZBe) (cf:=cI .i64) h1 (o11.mem (by simp)) rfl hq3 (i:=i) ax (by rfl) (k:=7) (y:=x.Msg_F_3) rfl ?_;refine ZH o11 λk2 h12 o12=>?_;refine ZU (cd:=cI .i64) (g:=ob k2 (ZG (cI .i64) [x.Msg_F_3]) 2) (s:=t2) (t:=⟨some ⟨k2,0,none⟩,1,1⟩) (ys:=[x.Msg_F_3]) (o12.pick [2,0,1] 3 (by decide) (by decide)) rfl v2 (by decide) (Ze rfl rfl) (o12.get (i:=0) rfl) ?_ λd13 p13 n13 m13 h13 o13 w13=>?_
         .exact Nat.le_trans (Nat.mul_le_mul_right _ (show _<=1000000000 by simp only [List.length_cons,List.length_nil]; omega)) (by decide)
         exact fin _ _ _ _ _ _ _ _ _ (o13.pick [2,0,3,4] 5 (by decide) (by decide)) w11 w13
        .refine ZL h1 (Int.natCast_nonneg i) (by omega) λq3 hq3=>⟨by decide,by decide,?_⟩
         refine Zg (cd:=ZBe) (cf:=cI .i64) h1 hg8 rfl hq3 (i:=i) ax (by rfl) (k:=7) (y:=x.Msg_F_3) rfl ?_;refine ZH o8 λk1 h10 o10=>?_;refine ZU (cd:=cI .i64) (g:=ob k1 (ZG (cI .i64) [o.Msg_F_1]) 2) (s:=t1) (t:=⟨some ⟨k1,0,none⟩,1,1⟩) (ys:=[o.Msg_F_1]) (o10.pick [1,0,2] 3 (by decide) (by decide)) rfl v1 (by decide) (Ze rfl rfl) (o10.get (i:=0) rfl) ?_ λd11 p11 n11 m11 h11 o11 w11=>?_
         .exact Nat.le_trans (Nat.mul_le_mul_right _ (show _<=1000000000 by simp only [List.length_cons,List.length_nil]; omega)) (by decide)
         have o11:=o11.pick [0,2,3,4] 5 (by decide) (by decide);refine ZH o11 λk2 h12 o12=>?_;refine ZU (cd:=cI .i64) (g:=ob k2 (ZG (cI .i64) [x.Msg_F_3]) 2) (s:=t2) (t:=⟨some ⟨k2,0,none⟩,1,1⟩) (ys:=[x.Msg_F_3]) (o12.pick [2,0,1] 3 (by decide) (by decide)) rfl v2 (by decide) (Ze rfl rfl) (o12.get (i:=0) rfl) ?_ λd13 p13 n13 m13 h13 o13 w13=>?_
         .exact Nat.le_trans (Nat.mul_le_mul_right _ (show _<=1000000000 by simp only [List.length_cons,List.length_nil]; omega)) (by decide)
         exact fin _ _ _ _ _ _ _ _ _ (o13.pick [2,0,3,4] 5 (by decide) (by decide)) w11 w13
       ·refine ZL wo7.row (Int.natCast_nonneg m) (by omega) fun q3 hq3=>Zg (cd:=ZCJ) (cf:=cI .i64) wo7.row hd7 rfl hq3 (i:=m) ao (by rfl) (k:=1) (y:=o.Msg_Kind) rfl ?_;refine ZD (fun e=>?_) fun e=>?_
        .have e:o.Msg_Kind=20:=by simpa using e
         refine ⟨by decide,by decide,by decide,by decide,?_⟩;refine ZHn (ids:=st.1) (lefts:=st.2) (d:=eL) (g:=eI) (l:=eI::D7::d7::[gb,gp,g]) (o8.pick [1,0] 2 (by decide) (by decide)) (by simp) v1.row v2 htk.1 (by omega) λdL' h' o' w'=>?_;refine hJ3 _ _ ⟨t1,t2,eI,dL',rfl,o'.pick [1,0] 2 (by decide) (by decide),?_,?_⟩<;>(unfold ZCP; rw [if_neg hno,if_pos e])<;>assumption
        .have e:o.Msg_Kind≠20:=by simpa using e
         refine ZL wo7.row (Int.natCast_nonneg m) (by omega) λq4 hq4=>Zg (cd:=ZCJ) (cf:=cI .i64) wo7.row hd7 rfl hq4 (i:=m) ao (by rfl) (k:=1) (y:=o.Msg_Kind) rfl ?_;refine ZD (λe2=>?_) λe2=>?_
         .have e2:o.Msg_Kind=21:=by simpa using e2
          refine ⟨by decide,by decide,by decide,by decide,?_⟩;refine ZHn (ids:=st.1) (lefts:=st.2) (d:=eL) (g:=eI) (l:=eI::D7::d7::[gb,gp,g]) (o8.pick [1,0] 2 (by decide) (by decide)) (by simp) v1.row v2 htk.1 (by omega) λdL' h' o' w'=>?_;refine hJ3 _ _ ⟨t1,t2,eI,dL',rfl,o'.pick [1,0] 2 (by decide) (by decide),?_,?_⟩<;>(unfold ZCP; rw [if_neg hno,if_neg e,if_pos e2])<;>assumption
         .have e2:o.Msg_Kind≠21:=by simpa using e2
          refine hJ3 _ _ ⟨t1,t2,eI,eL,rfl,o8,?_,?_⟩<;>(unfold ZCP; rw [if_neg hno,if_neg e,if_neg e2])<;>assumption
      ·refine ZL wo7.row (Int.natCast_nonneg m) (by omega) fun q3 hq3=>Zg (cd:=ZCJ) (cf:=cI .i64) wo7.row hd7 rfl hq3 (i:=m) ao (by rfl) (k:=1) (y:=o.Msg_Kind) rfl ?_;refine ZD (fun e=>?_) fun e=>?_
       .have e:o.Msg_Kind=18:=by simpa using e
        refine ZL h1 (Int.natCast_nonneg i) (by omega) λq3 hq3=>Zg (cd:=ZBe) (cf:=cI .i64) h1 hg8 rfl hq3 (i:=i) ax (by rfl) (k:=0) (y:=x.Kind) rfl ?_;refine ZD (λe1=>?_) λe1=>?_
        .have e1:x.Kind=1:=by simpa using e1
         refine ZL h1 (Int.natCast_nonneg i) (by omega) λq3 hq3=>Zg (cd:=ZBe) (cf:=cI .i64) h1 hg8 rfl hq3 (i:=i) ax (by rfl) (k:=3) (y:=x.Msg_Kind) rfl ?_;refine hJ4 _ _ ⟨rfl,?_⟩;rw [<-hb];by_cases e6:x.Msg_Kind=6
         .simp [e,e1,e6]
         .simp [e6]
        .have e1:x.Kind≠1:=by simpa using e1
         refine hJ4 _ _ ⟨rfl,?_⟩;rw [<-hb];simp [e1]
       .have e:o.Msg_Kind≠18:=by simpa using e
        refine hJ4 _ _ ⟨rfl,?_⟩;simp [e]
    .have hme:m=os.length:=by omega
     subst hme;rw [List.take_length,hfold] at v1 v2;have htk:=ZHk (b:=isO) (q:=x.Msg_F_3) os hl0;rw [hfold] at htk;rw [ZAQ (by omega)];exact again _ _ ⟨i+1,T,t1,t2,eI,eL,ids',rfl,by omega,⟨D7,o8.pick [2,0,1,4] 5 (by decide) (by decide),wD7⟩,v1,v2,by have:=htk.2; dsimp only at this; omega,hio',hid',w7,f7,hu.1,by rw [hu.2.books,hbl]⟩ (by show xs.length-((i+1:Nat):Int).toNat<xs.length-(i:Int).toNat; omega)
   .refine ZL h1 (Int.natCast_nonneg i) (by omega) λq3 hq3=>Zg (cd:=ZBe) (cf:=cI .i64) h1 hg6 rfl hq3 (i:=i) ax (by rfl) (k:=0) (y:=x.Kind) rfl ?_;refine ZD (λe1=>?_) λe1=>?_
    .have e1:x.Kind=1:=by simpa using e1
     refine ZL h1 (Int.natCast_nonneg i) (by omega) λq3 hq3=>Zg (cd:=ZBe) (cf:=cI .i64) h1 hg6 rfl hq3 (i:=i) ax (by rfl) (k:=3) (y:=x.Msg_Kind) rfl ?_;refine hJ7 _ _ ⟨rfl,?_⟩;by_cases e6:x.Msg_Kind=8
     .simp [e1,e6]
     .simp [e6]
    .have e1:x.Kind≠1:=by simpa using e1
     refine hJ7 _ _ ⟨rfl,?_⟩;simp [e1]
  ·have hb4:=w5.bl4;have hil2:ids.length≤1000000000:=by omega
   clear hil;refine Zb (λz h'=>∃ (n:Nat) (dL:Hp),z=(n:Int)/\n<=bs.length/\Zu k S h' (dI::dL::[gb,gp,g])/\Own (cI .i64) dL s2 (Zw (λi=>ZAg i S-((S.books.take n).map (ZAP i)).sum) ids)) (λz=>bs.length-z.toNat)
    ⟨0,dL,rfl,Nat.zero_le _,a5,by simpa using wL⟩ ?_
   clear wL a5;rintro J2 z h7 again2 ⟨n,dL,rfl,hn,a7,w7⟩;refine ZN (λt h'=>h'=h7/\t=decide (n<bs.length)) ?_ λJ8 hJ8=>?_
   ·rintro t h8 ⟨rfl,rfl⟩;refine ZJ (fun hlt2=>?_) fun hge2=>?_
    ·have hn':n<S.books.length:=by omega
     have hbk:=u5 _ (List.getElem_mem hn');have hok:=w5.books _ (List.getElem_mem hn');have hbe:=List.getElem?_eq_getElem hn';have hx0:({S with books:=S.books.set n S.books[n]}:DS)=S:=by rw [List.set_getElem_self]
     generalize hbb:S.books[n]=b at*
     refine Zb (fun z h'=>∃ (s:Nat) (dL:Hp),z=(s:Int)∧1≤s∧s≤3∧Zu k S h' (dI::dL::[gb,gp,g])∧Own (cI .i64) dL s2 (Zw (fun i=>ZAg i S-((S.books.take n).map (ZAP i)).sum-(if 2≤s then ZAP i (ZBB b 1) else 0)-(if 3≤s then ZAP i (ZBB b 2) else 0)) ids)) (fun z=>3-z.toNat)
          ⟨1,dL,rfl,by omega,by omega,a7,by simpa using w7⟩ ?_
     clear w7 a7;rintro J3 z h9 again3 ⟨s,dL,rfl,hs1,hs3,a9,w9⟩;refine ZJ (λhs2=>?_) λhs2=>?_
     ·refine ZMt a9 (fun hf=>absurd hf (by unfold isBond; simp; omega)) fun i2 hi2 c R q e o10 w10 cl=>?_;have e2:n=i2:=by omega
      subst e2;rw [hbb] at w10;refine ZFl (s:=(s:Int)) o10 w10 hok.1 (by have:=hok.2.2.1; omega) λsl c11 d11 h11 o11 w11 wd11=>?_;have hsl:=wd11.1;have hsv:=ZCm b (s:Int);have hb64:=hok.2.2.1;have a11:=cl h11 c11 (d11::dI::dL::[gb,gp,g]) b (o11.pick [0,2,1] 3 (by decide) (by decide)) w11;rw [hx0] at a11
      refine Zb (fun z h'=>∃ (m:Nat) (dL:Hp),z=(m:Int)∧m≤(ZBB b (s:Int)).length∧Zu k S h' (d11::dI::dL::[gb,gp,g])∧Own (cI .i64) dL s2 (Zw (fun i=>(ZAg i S-((S.books.take n).map (ZAP i)).sum-(if 2≤s then ZAP i (ZBB b 1) else 0)-(if 3≤s then ZAP i (ZBB b 2) else 0))-ZAP i ((ZBB b (s:Int)).take m)) ids)) (fun z=>(ZBB b (s:Int)).length-z.toNat)
           ⟨0,dL,rfl,Nat.zero_le _,a11,by simpa [ZFS] using w9⟩ ?_
      clear w9 a9 a11;rintro J4 z h12 again4 ⟨m,dL,rfl,hm,a12,w12⟩;refine ZJ (λhlt3=>?_) λhge3=>?_
      .have hm':m<(ZBB b (s:Int)).length:=by omega
       have ay:(ZBB b (s:Int))[m]?=some (ZBB b (s:Int))[m]:=List.getElem?_eq_getElem hm';generalize (ZBB b (s:Int))[m]=y at*;have hgs:d11.sub h12:=a12.sub (by simp);refine ZL wd11.row (Int.natCast_nonneg m) (by omega) λq1 hq1=>?_;refine ZL wd11.row (Int.natCast_nonneg m) (by omega) λq2 hq2=>?_;refine Zg (cd:=ZK) (cf:=cI .i64) wd11.row hgs rfl hq1 (i:=m) ay (by rfl) (k:=0) (y:=y.ID) rfl ?_;refine Zg (cd:=ZK) (cf:=cI .i64) wd11.row hgs rfl hq2 (i:=m) ay (by rfl) (k:=5) (y:=y.Left) rfl ?_;obtain ⟨D,o13,wD⟩:=a12;refine ZHn (ids:=ids) (d:=dL) (g:=dI) (l:=D::d11::dI::[gb,gp,g]) (o13.pick [3,0,1,2] 4 (by decide) (by decide)) (by simp) wI.row w12 (by unfold Zw; rw [List.length_map]) hil2 λdL' h' o' w'=>?_;rw [ZSt ay] at w';rw [ZAQ (by omega)];exact again4 _ _ ⟨m+1,dL',rfl,by omega,⟨D,o'.pick [1,2,3,0] 4 (by decide) (by decide),wD⟩,w'⟩ (by omega)
      .have hme:m=(ZBB b (s:Int)).length:=by omega
       rw [hme,List.take_length] at w12;rw [ZAQ (by omega)];refine again3 _ _ ⟨s+1,dL,rfl,by omega,by omega,a12.drop,?_⟩ (by omega);refine (ZAw λj _=>?_)▸w12;rcases (by omega:s=1\/s=2) with h|h
       .subst h;simp
       .subst h;simp
     .have hse:s=3:=by omega
      subst hse;rw [ZAQ (by omega)];refine again2 _ _ ⟨n+1,dL,rfl,by omega,a9,?_⟩ (by omega);refine (ZAw λj _=>?_)▸w9;rw [if_pos (by decide),if_pos (by decide),ZCN hbe,List.map_append,List.sum_append,List.map_cons,List.map_nil,List.sum_cons,List.sum_nil];have:=ZMI (x:=j) hbk.ok;omega
    .have hne:n=S.books.length:=by omega
     subst hne;rw [List.take_length] at w7;have h0:Zw (λi=>ZAg i S-(S.books.map (ZAP i)).sum) ids=Zw (λ_=>0) ids:=ZAw λj _=>by unfold ZAg; omega
     rw [h0] at w7;have hwl:=w7.1;have hll:(Zw (λ_=>0) ids).length=ids.length:=by unfold Zw; rw [List.length_map]
     refine Zb (λz h'=>∃ (m:Nat),z=(m:Int)/\m<=ids.length/\h'=h8) (λz=>ids.length-z.toNat) ⟨0,rfl,Nat.zero_le _,rfl⟩ ?_;rintro J3 z h9 again3 ⟨m,rfl,hm,rfl⟩;refine ZJ (λhlt3=>?_) λhge3=>?_
     .have hm':m<ids.length:=by omega
      have ay:(Zw (λ_=>0) ids)[m]?=some 0:=by unfold Zw;rw [List.getElem?_map,List.getElem?_eq_getElem hm'];rfl
      refine ZL w7.row (Int.natCast_nonneg m) (by omega) λq1 hq1=>ZO w7.row (a7.sub (by simp)) rfl hq1 (i:=m) ay (by rfl) ?_;refine ZT rfl ?_;rw [ZAQ (by omega)];exact again3 _ _ ⟨m+1,rfl,by omega,rfl⟩ (by omega)
     .refine Zh rfl ?_;obtain ⟨D,o,wD⟩:=a7;exact ZUH o λh' o'=>⟨rfl,o'.mem (by simp)⟩
   .refine Zh rfl (hJ8 _ _ ⟨rfl,?_⟩);rw [decide_eq_decide];omega
 .refine Zh rfl (hJ6 _ _ ⟨rfl,?_⟩);rw [decide_eq_decide];omega
theorem topOrders_law (W:World) (p0:Int) (p1:Sl) (_o0:Opn TP W 3 [.int .i64 p0]) (o1:Opn TP W 22 [.slice p1.a p1.len p1.cap]):F5 p0 p1 (ZVx W) (Lawful (ZVx W)):=by obtain ⟨xs,h1,h2⟩:=tacts_of o1;exact ZLW h1 h2
end Go.Proofs.YtkmniidiifpdgaaGreat
