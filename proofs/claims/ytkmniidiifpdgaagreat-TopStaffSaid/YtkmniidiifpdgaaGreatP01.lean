/- Made by program: of our texts what this law needs (Eng.Q Eng.QD Eng.R Eng.S Eng.U Eng.V Eng.W Eng.X Eng.Y Eng.Z Eng.AA Eng.AB Eng.AC Eng.AD Eng.JF). -/
import Derived.Test.YtkmniidiifpdgaaGreatP00
import Derived.ChangeArms
import Derived.ChangeSlices
import Derived.WideShapes
import Derived.OpenShut
import Derived.SizedLaws
import Derived.Below
import Derived.Shelf.SlSortCmp.NoneTotal
import Derived.JoinedOf
set_option linter.unusedVariables false
namespace Go.Eng
section
variable {A:Ann} {P:Program} {N:Nat} {fr:Hp} {w0:World}
def ZBf (A:Ann) (N:Nat) (fr:Hp) (w0:World) (C:Ct):Exit→Act→World→Prop
 | .normal,a,w=>St A N fr w0 C.n a w
 | .exit id,a,w=>St A N fr w0 (C.x id) a w
 | .ret,a,w=>St A N fr w0 (C.r none) a w
 | .panic ch,a,w=>∃ v,ch=[{v,recovered:=false}]∧St A N fr w0 (C.r (some v)) a w
 | _,_,_=>False
theorem ZJs:∀ {js:JS} {env:Env} {x:JT js},ZWm js env=some x→∀ s e,ZFp js x s=some e→env s=e:=by
 intro js
 have g1:∀ {b:Bool} {c:Cdc} {ev:EV} {x:c.T},ZYK b c ev=some x→ev=ev1 b c x:=by
  intro b c ev x h
  cases ev with
  | val v=>cases b with
    | true=>cases h
    | false=>simp only [ZYK] at h; simp [ev1,c.law _ _ h]
  | box cs=>cases b with
    | false=>cases h
    | true=>
      simp only [ZYK,ZZk] at h
      cases hg:c.agg with
      | true=>
        rw [hg] at h
        simp [ev1,c.law _ _ h,Value.cells]
      | false=>
        rw [hg] at h
        dsimp only at h
        split at h
        ·rename_i v
         cases ho:ZF7 v with
         | false=>rw [ho] at h; cases h
         | true=>
           rw [ho] at h
           simp [ev1,c.law _ _ h,ZFE ho]
        ·cases h
  | ref o=>cases h
  | unk=>cases h
 match js with
 | []=>intro env x _ s e h; cases h
 | [(t,b,c)]=>
   intro env x h s e hl
   simp only [ZFp] at hl
   simp only [ZWm] at h
   cases hb:Nat.beq s t with
   | false=>rw [hb] at hl; cases hl
   | true=>
     rw [hb] at hl
     simp only [cond_true,Option.some.injEq] at hl
     rw [ZFC.1 hb,g1 h,hl]
 | (t,b,c)::y::l=>
   intro env x h s e hl
   simp only [ZWm] at h
   split at h
   ·rename_i z hz
    split at h
    ·rename_i r hr
     cases h
     simp only [ZFp] at hl
     cases hb:Nat.beq s t with
     | true=>
       rw [hb] at hl
       simp only [cond_true,Option.some.injEq] at hl
       rw [ZFC.1 hb,g1 hz,hl]
     | false=>
       rw [hb] at hl
       exact ZJs (js:=y::l) hr s e hl
    ·cases h
   ·cases h
theorem ZGz:∀ {js:JS} {x:JT js} {s:Nat} {e:EV},ZFp js x s=some e→∀ o,e≠.ref o:=by
 intro js
 have k1:∀ (b:Bool) (c:Cdc) (x:c.T) (o:Nat),ev1 b c x≠.ref o:=by intro b c x o; cases b<;>simp [ev1]
 match js with
 | []=>intro x s e h; cases h
 | [(t,b,c)]=>
   intro x s e h o
   simp only [ZFp] at h
   cases hb:Nat.beq s t with
   | false=>rw [hb] at h; cases h
   | true=>rw [hb] at h; simp only [cond_true,Option.some.injEq] at h; rw [←h]; exact k1 _ _ _ _
 | (t,b,c)::y::l=>
   intro x s e h o
   simp only [ZFp] at h
   cases hb:Nat.beq s t with
   | true=>rw [hb] at h; simp only [cond_true,Option.some.injEq] at h; rw [←h]; exact k1 _ _ _ _
   | false=>rw [hb] at h; exact ZGz (js:=y::l) h o
theorem Rel.weaken {bx:Nat→Nat} {env env':Env} {a:Act} {h:Hp} {w:World} (R:Rel A N bx env a h fr w0 w) (hw:∀ s,env' s=.unk∨(env' s=env s∧∀ o,env s≠.ref o)):
 Rel A N bx env' a h fr w0 w:=by
 have back:∀ s cs,env' s=.box cs→env s=.box cs:=by
  intro s cs h
  rcases hw s with e|⟨e,_⟩
  ·rw [e] at h; cases h
  ·rw [←e]; exact h
 refine ⟨R.size,R.defers,R.hle,R.frle,R.dj,R.same,?_,fun s cs h=>R.prom s cs (back s cs h),fun s t cs ds h1 h2=>R.inj s t cs ds (back s cs h1) (back t ds h2)⟩
 intro s
 have hs:=R.slot s
 rcases hw s with e|⟨e,hne⟩
 ·rw [e]; trivial
 ·rw [e]
  cases hes:env s with
  | val v=>rw [hes] at hs; exact hs
  | box cs=>rw [hes] at hs; exact hs
  | ref o=>exact absurd hes (hne o)
  | unk=>trivial
theorem Rel.envJ {js:JS} {m:Nat} {bx:Nat→Nat} {env env':Env} {a:Act} {h:Hp} {w:World} (R:Rel A N bx env' a h fr w0 w) (hag:Agr A m env env') {x:JT js} (hx:ZWm js env'=some x):
 Rel A N bx (envJ A js m env x) a h fr w0 w:=by
 refine R.weaken fun s=>?_
 unfold Eng.envJ
 cases hl:ZFp js x s with
 | some e=>
   right
   have:=ZJs hx s e hl
   refine ⟨this.symm,fun o ho=>?_⟩
   -- what is handed on is a value or a variable
   rw [this] at ho
   exact ZGz hl o ho
 | none=>
   cases hb:(m.testBit s||(A.refOf s).isSome) with
   | true=>left; rfl
   | false=>
     right
     simp only [Bool.or_eq_false_iff] at hb
     have hr:A.refOf s=none:=by cases hr:A.refOf s with
      | none=>rfl
      | some t=>rw [hr] at hb; cases hb.2
     have e:=hag s hb.1 hr
     refine ⟨by simp only [cond_false]; exact e.symm,fun o ho=>?_⟩
     have hs:=R.slot s
     rw [ho] at hs
     obtain ⟨t,ht,_⟩:=hs
     rw [hr] at ht; cases ht
theorem Rel.of_heap {bx:Nat→Nat} {env:Env} {a:Act} {h:Hp} {w w':World} (R:Rel A N bx env a h fr w0 w) (hh:w'.heap=w.heap) (hs:ZFx w w'):Rel A N bx env a h fr w0 w':=
 R.world (fun b o hb=>by rw [hh]; exact R.hle b o hb) (fun b o hb=>by rw [hh]; exact R.frle b o hb) R.dj hs (fun b _ h1 _=>⟨by rw [hh],h1⟩)
theorem ZE1 {ops:Array Oper} {l:List Nat} {a:Act} {w:World} {K:Act→World→Prop} {Q:Exit→Act→World→Prop} (hl:ZGR P ops l a w K) (hK:∀ a w,K a w→Q .normal a w)
 (b:Frame) (k:List Item) (cs:List Frame):∃ e a' w',Q e a' w'∧Arrives P (lone (b.at a (.inRegion ops l::k)) cs w) b k cs e a' w':=by
 obtain ⟨a',w',hk,hs⟩:=hl b k cs
 exact ⟨.normal,a',w',hK _ _ hk,hs⟩
theorem ZOl (d:Nat) {t:TypeId} {ms:Array (String×TypeId)} (hu:P.underlying t=some (.interface ms)) (t':TypeId) (v:Value) (w:World):(Op.equalIn (d+1) t (.iface t' v) .nilIface).run P w=.ok false w:=by
 simp [Op.equalIn,Zc hu]
theorem ZTn (d:Nat) {t:TypeId} {ms:Array (String×TypeId)} (hu:P.underlying t=some (.interface ms)) (w:World):(Op.equalIn (d+1) t .nilIface .nilIface).run P w=.ok true w:=by
 simp [Op.equalIn,Zc hu]
theorem ZTf {bx:Nat→Nat} {env:Env} {a:Act} {h:Hp} {w1:World} (R:Rel A N bx env a h fr w0 w1) {o:Oper} {v:Value} (hv:ZX7 A P o env=some v) (w:World):(execOp a.eval o).run P w=.ok (.value v) w:=by
 obtain ⟨dst,op,type,pos,after,guard⟩:=o
 unfold ZX7 at hv
 dsimp only at hv
 split at hv
 ·rename_i x xt t
  split at hv
  ·rename_i t' u fs hl hu
   have e:=R.eval_v hl
   cases hb:Nat.beq t' t with
   | true=>
     rw [hb] at hv
     simp only [cond_true,Option.some.injEq] at hv
     subst hv
     have:t'=t:=ZFC.1 hb
     subst this
     simp [execOp,e,Instr.typeAssert,Zc hu]
   | false=>
     rw [hb] at hv
     simp only [cond_false] at hv
     split at hv
     ·rename_i z hz
      simp only [Option.some.injEq] at hv
      subst hv
      have:t'≠t:=ZSu.1 hb
      simp [execOp,e,Instr.typeAssert,Zc hu,this,ZDB hz]
     ·cases hv
  ·cases hv
 ·rename_i t x ty
  split at hv
  ·rename_i t' u ms hl hu
   have e:=R.eval_v hl
   simp only [Option.some.injEq] at hv
   subst hv
   have hq:=ZOl (P:=P) 9999 hu t' u w
   simp only [execOp,e,show a.eval (.const .nilIface)=Value.nilIface from rfl,Sem.run_bind,eqGuard,binOp,Op.equal,Op.maxDepth]
   simp [hq]
  ·rename_i ms hl hu
   have e:=R.eval_v hl
   simp only [Option.some.injEq] at hv
   subst hv
   have hq:=ZTn (P:=P) 9999 hu w
   simp only [execOp,e,show a.eval (.const .nilIface)=Value.nilIface from rfl,Sem.run_bind,eqGuard,binOp,Op.equal,Op.maxDepth]
   simp [hq]
  ·cases hv
 ·rename_i c
  obtain ⟨callee,args,ats⟩:=c
  dsimp only at hv
  split at hv
  ·rename_i t p len n ht hl
   split at hv
   ·rename_i e hu
    simp only [Option.some.injEq] at hv
    subst hv
    have hargs:args.map a.eval=#[.slice p len n]:=Array.ext' (by simpa using ZAW R hl)
    simp [execOp,resolve,invoke,builtin,hargs,Builtin.cap_,ht,Zc hu,goInt]
   ·cases hv
  ·cases hv
 ·cases hv
theorem ZOr (hP:ZGb P A) {ops:Array Oper}:∀ (l:List Nat) {bx:Nat→Nat} {env:Env} {a:Act} {h:Hp} {w:World} {K:Env→Hp→Prop} {S:Value→Env→Hp→Prop},Rel A N bx env a h fr w0 w→ZPW A P N ops l env h K S→
 ∀ (b:Frame) (k:List Item) (cs:List Frame),∃ e a' w',((e=Exit.normal∧St A N fr w0 K a' w')∨∃ v,e=.panic [{v,recovered:=false}]∧St A N fr w0 (S v) a' w')∧
  Arrives P (lone (b.at a (.inRegion ops l::k)) cs w) b k cs e a' w':=by
 intro l
 induction l with
 | nil=>intro bx env a h w K S R hk b k cs; exact ⟨.normal,a,w,.inl ⟨rfl,_,_,_,R,hk⟩,.one step_region_end⟩
 | cons i l ih=>
   intro bx env a h w K S R hk b k cs
   unfold ZPW at hk
   split at hk
   ·rename_i o ho
    unfold ZJ9 at hk
    cases hx:isX A P o with
    | false=>
      rw [hx] at hk
      obtain ⟨a',w',⟨bx',env',h',R',hk'⟩,hs⟩:=ZEF hP R ho hk b l k cs
      obtain ⟨e,a2,w2,hq,harr⟩:=ih R' hk' b k cs
      exact ⟨e,a2,w2,hq,.of_steps hs harr⟩
    | true=>
    rw [hx] at hk
    simp only [cond_true] at hk
    have hg:=ZRB hx
    have hw:=ZHH (ops:=ops) R (ZSr.free hg)
    have hsg:=stepG_op (P:=P) (b:=b) (k:=k) (cs:=cs) (w:=w) (rest:=l) ho hw
    have hfin:∀ v,(b.at a (.inRegion ops (i::l)::k)).finish v=b.at (a.put o.dst v) (.inRegion ops l::k):=by
      intro v; rw [Frame.finish_at,ho]; rfl
    rcases ZId hk with ⟨hd,v,hv,hk'⟩|⟨hv,⟨x,t,v,hop,hl,hS⟩|⟨c,hop,hd,⟨g,l',r,fn,bd,hcal,hl,hr,hfn,hb,hc⟩|⟨t,u,p,len,cap,kk,n,e,k',cd,zv,z,hcal,ht,hu,hl,ht',hu',hcd,hzv,hf,hb,hz,hgr⟩⟩⟩
    ·obtain ⟨a',w',⟨bx',env',h',R',hk2⟩,hs⟩:=ZDd (a':=a.put o.dst v) (K:=St A N fr w0 fun e h=>ZPW A P N ops l e h K S) ho hw (.inl ⟨v,ZTf R hv w,rfl⟩) ⟨_,_,_,R.put hP.good (ZFb hd) (ev:=.val v) rfl,hk'⟩ b l k cs
     obtain ⟨e,a2,w2,hq,harr⟩:=ih R' hk2 b k cs
     exact ⟨e,a2,w2,hq,.of_steps hs harr⟩
    ·have hrun:(execOp a.eval o).run P w=.halt (.panic (.iface t v)) w:=by
       obtain ⟨dst,op,type,pos,after,guard⟩:=o
       cases hop
       simp only [execOp,R.eval_v hl]
       rfl
     refine ⟨.panic [{v:=.iface t v,recovered:=false}],a,w,.inr ⟨_,rfl,_,_,_,R,hS⟩,.inRegion ops (i::l)::k,.one (step_lone_go ?_)⟩
     rw [hsg,←Frame.raise_at]; simp [stepG.apply,hrun]
    ·have hrun:(execOp a.eval o).run P w=.ok (.enter g l'.toArray) w:=by
       obtain ⟨dst,op,type,pos,after,guard⟩:=o
       cases hop
       obtain ⟨callee,args,ats⟩:=c
       cases hcal
       have hargs:args.map a.eval=l'.toArray:=Array.ext' (by simpa using ZAW R hl)
       have hng:=hP.noNG g fn hfn
       simp only [execOp,resolve,Deferred.ofValue,Act.eval,hargs,Sem.run_bind,Sem.run_pure,Result.andThen_ok,invoke,callFunc,run_program,hfn,hng,Bool.false_eq_true,if_false,hb,Option.isNone_some]
       congr 2
       simp
     obtain ⟨e,w'',fr',⟨v,h',he,hle',hfr,hdj,sm⟩,hsteps,_,hleave⟩:=hc w ((ZEn bx env w).un fr) R.hle (Hp.un_le R.boxes_le R.frle) (Hp.dj_un R.boxes_dj R.dj) (b.at a (.inRegion ops (i::l)::k)::cs)
     have R':=R.called hle' hfr hdj sm
     have henter:step P (lone (b.at a (.inRegion ops (i::l)::k)) cs w)=
         .next (lone (Frame.enter P g l'.toArray .normal) (b.at a (.inRegion ops (i::l)::k)::cs) w):=
       step_lone_go (by rw [hsg]; simp [stepG.apply,hrun,Frame.at])
     rcases he with ⟨rfl,x,rfl,hk'⟩|⟨rfl,hS⟩
     ·obtain ⟨e,a2,w2,hq,harr⟩:=ih (R'.put hP.good (ZFb hd) (ev:=.val (r.enc x)) rfl) hk' b k cs
      refine ⟨e,a2,w2,hq,.of_steps (.head henter (Steps.trans hsteps (.one ?_))) harr⟩
      rw [←hfin]; exact step_leave_returned hleave
     ·refine ⟨.panic [{v,recovered:=false}],a,w'',.inr ⟨v,rfl,_,_,_,R',hS⟩,.inRegion ops (i::l)::k,.head henter (Steps.trans hsteps (.one ?_))⟩
      rw [←Frame.raise_at]; exact step_leave_panicked hleave
    ·obtain ⟨p',l2,c',h',w',hk',hr,hs⟩:=ZS1 (ty:=o.type) (j:=kk) ht hu ht' hu' hf rfl hb.1 hb.2 hzv (cd.law _ _ hz).symm R.hle R.frle R.dj hgr
     have hrun:(execOp a.eval o).run P w=.ok (.value (.slice p' l2 c')) w':=by
       obtain ⟨dst,op,type,pos,after,guard⟩:=o
       cases hop
       obtain ⟨callee,args,ats⟩:=c
       cases hcal
       have hargs:args.map a.eval=#[.slice p len cap,.int kk n]:=Array.ext' (by simpa using ZAW R hl)
       simp only [execOp,resolve,Sem.run_bind,Sem.run_pure,Result.andThen_ok,invoke,builtin,hargs]
       rw [hr]; rfl
     have R':=R.world hs.hle hs.frle hs.dj hs.same hs.keep
     obtain ⟨a',w2,⟨bx',env',h2,R2,hk2⟩,hst⟩:=ZDd (a':=a.put o.dst (.slice p' l2 c')) (w':=w') (K:=St A N fr w0 fun e h=>ZPW A P N ops l e h K S) ho hw (.inl ⟨_,hrun,rfl⟩) ⟨_,_,_,R'.put hP.good (ZFb hd) (ev:=.val _) rfl,hk'⟩ b l k cs
     obtain ⟨e,a3,w3,hq,harr⟩:=ih R2 hk2 b k cs
     exact ⟨e,a3,w3,hq,.of_steps hst harr⟩
   ·exact hk.elim
theorem ZDR (hP:ZGb P A) (hmix:P.follows .mixedOrders=true):∀ (c:Code) (an:An) (bx:Nat→Nat) (env:Env) (a:Act) (h:Hp) (w:World) (C:Ct),
 Rel A N bx env a h fr w0 w→ZAJ A P N c an env h C→c.wp P (ZBf A N fr w0 C) a w:=by
 intro c
 induction c with
 | skip=>intro an bx env a h w C R hk; exact wp_skip ⟨_,_,_,R,hk⟩
 | label l=>intro an bx env a h w C R hk; exact wp_label ⟨_,_,_,R,hk⟩
 | region id ops draw=>
   intro an bx env a h w C R hk
   cases an<;>try exact hk.elim
   ·rename_i seq
    cases draw with
    | false=>
      simp only [ZAJ] at hk
      have:=ZLD (N:=N) hP (ZCI ops.size) R hk
      rw [show (ZCI ops.size).map Prod.fst=List.range ops.size by simp [ZCI,Function.comp_def]] at this
      intro b k cs
      obtain ⟨e,a',w',hq,ha⟩:=ZE1 (Q:=ZBf A N fr w0 C) this (fun a w hk=>hk) b k cs
      exact ⟨e,a',w',hq,.of_steps (.one step_region) ha⟩
    | true=>
      simp only [ZAJ] at hk
      cases hc:ZGB A P ops seq with
      | false=>rw [hc] at hk; exact hk.elim
      | true=>
        rw [hc] at hk
        intro b k cs
        have R':Rel A N bx env a h fr w0 {w with drawn:=w.drawn+1}:=R.of_heap rfl ⟨rfl,rfl,rfl⟩
        have:=ZPQ (N:=N) hP hc R' hk (w.tape w.drawn (.order b.fn id))
        obtain ⟨e,a',w',hq,ha⟩:=ZE1 (Q:=ZBf A N fr w0 C) this (fun a w hk=>hk) b k cs
        refine ⟨e,a',w',hq,.of_steps (.one step_region_draw) ?_⟩
        simp only [Region.schedule,hmix,Bool.true_or,if_true]
        exact ha
   ·cases draw with
    | true=>exact hk.elim
    | false=>
      simp only [ZAJ] at hk
      intro b k cs
      obtain ⟨e,a',w',hq,ha⟩:=ZOr (N:=N) hP (List.range ops.size) R hk b k cs
      refine ⟨e,a',w',?_,.of_steps (.one step_region) ha⟩
      rcases hq with ⟨rfl,hq⟩|⟨v,rfl,hq⟩
      ·exact hq
      ·exact ⟨v,rfl,hq⟩
 | seq x y ihx ihy=>
   intro an bx env a h w C R hk
   cases an<;>try exact hk.elim
   ·rename_i a' b'
    simp only [ZAJ] at hk
    refine wp_seq (wp_mono (ihx a' bx env a h w _ R hk) ?_)
    intro e a2 w2 hq
    cases e with
    | normal=>obtain ⟨bx',env',h',R',hk'⟩:=hq; exact ihy b' bx' env' a2 h' w2 C R' hk'
    | exit id=>exact hq
    | ret=>exact hq
    | goto l=>exact hq.elim
    | panic c=>exact hq
    | outgrown=>exact hq.elim
   ·rename_i js m a' b'
    simp only [ZAJ] at hk
    cases hc:(ZGH (ZBU A x a') m&&ZGH (ZBr js) m) with
    | false=>rw [hc] at hk; exact hk.elim
    | true=>
      rw [hc] at hk
      simp only [cond_true,ZX] at hk
      simp only [Bool.and_eq_true] at hc
      refine wp_seq (wp_mono (ihx a' bx env a h w _ R (ZHM x a' env h _ hk)) ?_)
      intro e a2 w2 hq
      cases e with
      | normal=>
        obtain ⟨bx',env',h',R',hag,hk'⟩:=hq
        dsimp only [Ct.agr] at hk'
        unfold toJ at hk'
        split at hk'
        ·rename_i z hz
         exact ihy b' bx' _ a2 h' w2 C (R'.envJ (hag.mono (ZCj hc.1)) hz) hk'
        ·exact hk'.elim
      | exit id=>obtain ⟨bx',env',h',R',hag,hk'⟩:=hq; exact ⟨bx',env',h',R',hk'⟩
      | ret=>exact hq
      | goto l=>exact hq.elim
      | panic c=>exact hq
      | outgrown=>exact hq.elim
 | cond o x y ihx ihy=>
   intro an bx env a h w C R hk
   cases an<;>try exact hk.elim
   rename_i a' b'
   simp only [ZAJ] at hk
   split at hk
   ·rename_i t ht
    cases t
    ·exact wp_cond (t:=false) (R.eval_v ht) (ihy b' bx env a h w C R hk)
    ·exact wp_cond (t:=true) (R.eval_v ht) (ihx a' bx env a h w C R hk)
   ·exact hk.elim
 | block id c ih=>
   intro an bx env a h w C R hk
   cases an<;>try exact hk.elim
   ·rename_i a'
    simp only [ZAJ] at hk
    refine wp_block (wp_mono (ih a' bx env a h w _ R hk) ?_)
    intro e a2 w2 hq
    cases e with
    | normal=>exact hq
    | exit k=>
      simp only [ZBf] at hq
      unfold Exit.inBlock
      dsimp only
      by_cases e:k=id
      ·subst e
       rw [if_pos rfl]
       rw [ZFC.2 rfl] at hq; exact hq
      ·rw [if_neg e]
       rw [ZSu.2 e] at hq; exact hq
    | ret=>exact hq
    | goto l=>exact hq.elim
    | panic c=>exact hq
    | outgrown=>exact hq.elim
   ·rename_i js m a'
    simp only [ZAJ] at hk
    cases hc:(ZGH (ZBU A c a') m&&ZGH (ZBr js) m) with
    | false=>rw [hc] at hk; exact hk.elim
    | true=>
      rw [hc] at hk
      simp only [cond_true,ZX] at hk
      simp only [Bool.and_eq_true] at hc
      have fin:∀ {bx':Nat→Nat} {env':Env} {a2:Act} {h':Hp} {w2:World},Rel A N bx' env' a2 h' fr w0 w2→Agr A (ZBU A c a') env env'→toJ js env' h' (fun x h=>C.n (Eng.envJ A js m env x) h)→St A N fr w0 C.n a2 w2:=by
       intro bx' env' a2 h' w2 R' hag hk'
       unfold toJ at hk'
       split at hk'
       ·rename_i z hz
        exact ⟨_,_,_,R'.envJ (hag.mono (ZCj hc.1)) hz,hk'⟩
       ·exact hk'.elim
      refine wp_block (wp_mono (ih a' bx env a h w _ R (ZHM c a' env h _ hk)) ?_)
      intro e a2 w2 hq
      cases e with
      | normal=>obtain ⟨bx',env',h',R',hag,hk'⟩:=hq; exact fin R' hag hk'
      | exit k=>
        obtain ⟨bx',env',h',R',hag,hk'⟩:=hq
        dsimp only [Ct.agr] at hk'
        unfold Exit.inBlock
        dsimp only
        by_cases e:k=id
        ·subst e
         rw [if_pos rfl]
         rw [ZFC.2 rfl] at hk'
         exact fin R' hag hk'
        ·rw [if_neg e]
         rw [ZSu.2 e] at hk'; exact ⟨bx',env',h',R',hk'⟩
      | ret=>exact hq
      | goto l=>exact hq.elim
      | panic c=>exact hq
      | outgrown=>exact hq.elim
 | loop c ih=>
   intro an bx env a h w C R hk
   cases an<;>try exact hk.elim
   rename_i js m a'
   simp only [ZAJ] at hk
   cases hc:(ZGH (ZBU A c a') m&&ZGH (ZBr js) m) with
   | false=>rw [hc] at hk; exact hk.elim
   | true=>
     rw [hc] at hk
     simp only [cond_true] at hk
     simp only [Bool.and_eq_true] at hc
     split at hk
     ·rename_i x0 hx0
      obtain ⟨I,μ,h0,hr⟩:=hk
      -- the measure,on the machine's side: out of a choice
      let Inv:Nat→Act→World→Prop:=fun n a w=>∃ bx' x h',Rel A N bx' (Eng.envJ A js m env x) a h' fr w0 w∧I x h'∧μ x h'=n
      have round:∀ n,∀ a w,Inv n a w→c.wp P (Exit.then (fun a' w'=>∃ n',n'<n∧Inv n' a' w') (ZBf A N fr w0 C)) a w:=by
       rintro n a w ⟨bx',x,h',R',hI,rfl⟩
       refine wp_mono (ih a' bx' _ a h' w _ R' (ZHM c a' _ h' _ (hr x h' hI))) ?_
       intro e a2 w2 hq
       cases e with
       | normal=>
         obtain ⟨bx2,env2,h2,R2,hag,hk2⟩:=hq
         dsimp only [Ct.agr] at hk2
         unfold toJ at hk2
         split at hk2
         ·rename_i x2 hx2
          have hag2:Agr A m env env2:=((ZEP hc.2).trans (hag.mono (ZCj hc.1))).mono fun s hs=>by
              rw [Nat.testBit_or,Bool.or_self] at hs; exact hs
          exact ⟨_,hk2.2,bx2,x2,h2,R2.envJ hag2 hx2,hk2.1,rfl⟩
         ·exact hk2.elim
       | exit id=>obtain ⟨bx2,env2,h2,R2,hag,hk2⟩:=hq; exact ⟨bx2,env2,h2,R2,hk2⟩
       | ret=>exact hq
       | goto l=>exact hq.elim
       | panic c=>exact hq
       | outgrown=>exact hq.elim
      -- the loop by strong induction
      intro b k cs
      have key:∀ n a w,Inv n a w→∃ e a' w',ZBf A N fr w0 C e a' w'∧Arrives P (lone (b.at a (.code c::.inLoop c::k)) cs w) b k cs e a' w':=by
       intro n
       induction n using Nat.strongRecOn with
       | _ n ihn=>
         intro a w hI
         obtain ⟨e,a₁,w₁,hq,harr⟩:=round n a w hI b (.inLoop c::k) cs
         cases e with
         | normal=>
           obtain ⟨n',hlt,hI'⟩:=hq
           obtain ⟨e₂,a₂,w₂,hq₂,harr₂⟩:=ihn n' hlt a₁ w₁ hI'
           exact ⟨e₂,a₂,w₂,hq₂,.of_steps (Steps.trans harr (.one step_inLoop)) harr₂⟩
         | exit id=>exact ⟨.exit id,a₁,w₁,hq,.pass (x:=.inLoop c) rfl (fun _ _=>.inl (by simp)) harr⟩
         | ret=>exact ⟨.ret,a₁,w₁,hq,.pass (x:=.inLoop c) rfl (fun _ _=>.inl (by simp)) harr⟩
         | goto l=>exact hq.elim
         | panic ch=>exact ⟨.panic ch,a₁,w₁,hq,.pass (x:=.inLoop c) rfl (fun _ _=>.inl (by simp)) harr⟩
         | outgrown=>exact hq.elim
      obtain ⟨e,a',w',hq,harr⟩:=key _ a w ⟨bx,x0,h,R.envJ (Agr.refl m env) hx0,h0,rfl⟩
      exact ⟨e,a',w',hq,.of_steps (.one step_loop) harr⟩
     ·exact hk.elim
 | exit id=>intro an bx env a h w C R hk; exact wp_exit ⟨_,_,_,R,hk⟩
 | ret=>intro an bx env a h w C R hk; exact wp_ret ⟨_,_,_,R,hk⟩
 | scope c ih=>intro an bx env a h w C R hk; exact hk.elim
 | goto l=>intro an bx env a h w C R hk; exact hk.elim
 | refuse s=>intro an bx env a h w C R hk; exact hk.elim
 | rangeFunc f p x y=>intro an bx env a h w C R hk; exact hk.elim
def ZVK (A:Ann) (P:Program):List ResultVar→Env→Hp→(List Value→Prop)→Prop
 | [],_,_,k=>k []
 | .tmp t::l,env,h,k=>match env t with
   | .val v=>ZVK A P l env h fun vs=>k (v::vs)
   | _=>False
 | .cell t ty::l,env,h,k=>match env t with
   | .box cs=>match ZAl P ty with
     | some n=>ZJW (ZCE P ty) n cs 0 fun e=>match e with
       | .val v=>ZVK A P l env h fun vs=>k (v::vs)
       | _=>False
     | none=>False
   | .val (.pointer (some a))=>match A.cdc ty with
     | some c=>bif ZAn P c ty then ZC c a h fun x=>ZVK A P l env h fun vs=>k (c.enc x::vs) else False
     | none=>False
   | _=>False
def ZJF:List Value→Value
 | [v]=>v
 | vs=>.tuple vs.toArray
def ZWv (A:Ann) (P:Program) (fn:Func) (rc:Cdc) (Q:rc.T→Hp→Prop) (env:Env) (h:Hp):Prop:=
 ZVK A P fn.results.toList env h fun vs=>match rc.dec (ZJF vs) with
  | some r=>Q r h
  | none=>False
def ZVB (args:List Value):Env:=fun s=>match args[s]? with
 | some v=>.val v
 | none=>.unk
def ZZF (R:Env→Hp→Prop) (S:Value→Env→Hp→Prop):Option Value→Env→Hp→Prop
 | none=>R
 | some v=>S v
def fnD (A:Ann) (P:Program) (f:FuncId) (an:An) (rc:Cdc) (args:List Value) (h:Hp) (Q:rc.T→Hp→Prop):Prop:=
 match A.defs,P.funcs[f]? with
 | [],some fn=>match fn.body with
   | some c=>bif Nat.ble args.length fn.ntmps then
      ZAJ A P fn.ntmps c an (ZVB args) h {n:=ZWv A P fn rc Q,x:=fun _ _ _=>False,r:=ZZF (ZWv A P fn rc Q) fun _ _ _=>False}
     else False
   | none=>False
 | _,_=>False
def fnX (A:Ann) (P:Program) (f:FuncId) (an:An) (rc:Cdc) (args:List Value) (h:Hp) (Q:rc.T→Hp→Prop) (S:Value→Hp→Prop):Prop:=
 match A.defs,P.funcs[f]? with
 | [],some fn=>match fn.body with
   | some c=>bif Nat.ble args.length fn.ntmps then
      ZAJ A P fn.ntmps c an (ZVB args) h {n:=ZWv A P fn rc Q,x:=fun _ _ _=>False,r:=ZZF (ZWv A P fn rc Q) fun v _ h=>S v h}
     else False
   | none=>False
 | _,_=>False
theorem ZUv (hP:ZGb P A) {bx:Nat→Nat} {env:Env} {a:Act} {h:Hp} {w:World} (R:Rel A N bx env a h fr w0 w):∀ (l:List ResultVar) (k:List Value→Prop),ZVK A P l env h k→
 ∃ vs,k vs∧(l.mapM (fun|.tmp t=>pure (a.tmps.getD t undef)|.cell c t=>do loadVar t (←asAddr (a.tmps.getD c undef)):ResultVar→Sem Value)).run P w=.ok vs w:=by
 intro l
 induction l with
 | nil=>intro k hk; exact ⟨[],hk,rfl⟩
 | cons r l ih=>
   intro k hk
   cases r with
   | tmp t=>
     simp only [ZVK] at hk
     split at hk
     ·rename_i v hv
      obtain ⟨vs,h1,h2⟩:=ih _ hk
      have hs:=R.slot t
      rw [hv] at hs
      simp only [ZC5] at hs
      refine ⟨v::vs,h1,?_⟩
      simp only [List.mapM_cons,Sem.run_bind,Sem.run_pure,Result.andThen_ok,h2]
      simp [hs]
     ·exact hk.elim
   | cell t ty=>
     simp only [ZVK] at hk
     split at hk
     ·rename_i cs hv
      have hs:=R.slot t
      rw [hv] at hs
      obtain ⟨ht,⟨e,hb⟩,_,_⟩:=hs
      split at hk
      ·rename_i n hn
       obtain ⟨d,hd⟩:=hP.formed _ _ hn
       have fin:∀ v,(loadVar ty ⟨bx t,0,none⟩).run P w=.ok v w→ZVK A P l env h (fun vs=>k (v::vs))→
         ∃ vs,k vs∧((ResultVar.cell t ty::l).mapM (fun|.tmp t=>pure (a.tmps.getD t undef)|.cell c t=>do loadVar t (←asAddr (a.tmps.getD c undef)):ResultVar→Sem Value)).run P w=.ok vs w:=by
         intro v hv hk
         obtain ⟨vs,h1,h2⟩:=ih _ hk
         refine ⟨v::vs,h1,?_⟩
         have:a.tmps.getD t undef=.pointer (some ⟨bx t,0,none⟩):=by simp [ht]
         rw [List.mapM_cons]
         dsimp only
         rw [Sem.run_bind,Sem.run_bind,this]
         rw [show (asAddr (Value.pointer (some ⟨bx t,0,none⟩)))=pure ⟨bx t,0,none⟩ from rfl]
         simp only [Sem.run_pure,Result.andThen_ok,hv,Sem.run_bind,h2]
       unfold ZJW at hk
       cases hg:ZCE P ty with
       | true=>
         rw [hg] at hk
         dsimp only at hk
         cases hl:Nat.ble (0+n) cs.length with
         | false=>rw [hl] at hk; exact hk.elim
         | true=>
           rw [hl] at hk
           have hl:=Nat.le_of_ble_eq_true hl
           have:=ZDD (P:=P) (w:=w) hn ⟨d,hd⟩ (cs:=(cs.drop 0).take n) (by simp; omega) (ZNZ (off:=0) hb hl) (by rw [hg]; simp)
           rw [hg] at this
           exact fin _ this hk
       | false=>
         rw [hg] at hk
         dsimp only at hk
         split at hk
         ·rename_i v hv'
          refine fin v ?_ hk
          unfold loadVar
          simp only [Sem.run_bind,ZGq hd,hg,Result.andThen_ok,Bool.false_eq_true,if_false]
          rw [run_load,ZBc hb,show cs.toArray[0]?=some v by simpa using hv']
         ·exact hk.elim
      ·exact hk.elim
     ·rename_i ad hv
      have hs:=R.slot t
      rw [hv] at hs
      simp only [ZC5] at hs
      split at hk
      ·rename_i c hc
       cases hf:ZAn P c ty with
       | false=>rw [hf] at hk; exact hk.elim
       | true=>
         rw [hf] at hk
         obtain ⟨y,hy,hk⟩:=hk
         obtain ⟨vs,h1,h2⟩:=ih _ hk
         refine ⟨c.enc y::vs,h1,?_⟩
         have:a.tmps.getD t undef=.pointer (some ad):=by simp [hs]
         rw [List.mapM_cons]
         dsimp only
         rw [Sem.run_bind,Sem.run_bind,this]
         rw [show (asAddr (Value.pointer (some ad)))=pure ad from rfl]
         simp only [Sem.run_pure,Result.andThen_ok,ZMl hP hf (ZUx R.hle hy),Sem.run_bind,h2]
      ·exact hk.elim
     ·exact hk.elim
theorem ZCa (hP:ZGb P A) {fn:Func} {rc:Cdc} {Q:rc.T→Hp→Prop} {bx:Nat→Nat} {env:Env} {a:Act} {h:Hp} {w:World} (R:Rel A N bx env a h fr w0 w) (hk:ZWv A P fn rc Q env h):
 ∃ r,(results fn a.tmps).run P w=.ok (rc.enc r) w∧Q r h:=by
 obtain ⟨vs,hq,hr⟩:=ZUv hP R _ _ hk
 split at hq
 ·rename_i r hdec
  refine ⟨r,?_,hq⟩
  rw [rc.law _ _ hdec]
  have hm:(fn.results.mapM (fun|.tmp t=>pure (a.tmps.getD t undef)|.cell c t=>do loadVar t (←asAddr (a.tmps.getD c undef)):ResultVar→Sem Value)).run P w=.ok vs.toArray w:=by
   have:fn.results=fn.results.toList.toArray:=by simp
   rw [this,List.mapM_toArray,Sem.run_map,hr]; rfl
  unfold results
  rw [Sem.run_bind]
  have hm':∀ f:ResultVar→Sem Value,f=(fun|.tmp t=>pure (a.tmps.getD t undef)|.cell c t=>do loadVar t (←asAddr (a.tmps.getD c undef)):ResultVar→Sem Value)→(fn.results.mapM f).run P w=.ok vs.toArray w:=fun f hf=>hf▸hm
  rw [hm' _ (by funext x; cases x<;>rfl)]
  simp only [Result.andThen_ok,Sem.run_pure]
  congr 1
  have hone:∀ vs:List Value,(if h:vs.toArray.size=1 then vs.toArray[0] else Value.tuple vs.toArray)=ZJF vs:=by
   intro vs
   rcases vs with _|⟨v,_|⟨u,l⟩⟩<;>simp [ZJF]
  exact hone vs
 ·exact hq.elim
theorem ZFc {N:Nat} {args:List Value} (hb:args.length≤N) (hdf:A.defs=[]) {h fr:Hp} {w:World} (hle:h.le w) (frle:fr.le w) (dj:h.dj fr):
 Rel A N (fun _=>0) (ZVB args) {tmps:=args.toArray++Array.replicate (N-args.toArray.size) undef,defers:=[]} h fr w w:=by
 refine ⟨by simp; omega,hdf.symm,hle,frle,dj,ZFx.refl w,?_,?_,?_⟩
 ·intro s
  unfold ZVB
  cases hs:args[s]? with
  | none=>trivial
  | some v=>
    have:=(List.getElem?_eq_some_iff.1 hs).1
    simp only [ZC5]
    rw [Array.getElem?_append_left (by simpa using this)]
    simpa using hs
 ·intro s cs hs
  unfold ZVB at hs
  split at hs<;>cases hs
 ·intro s t cs ds hs
  unfold ZVB at hs
  split at hs<;>cases hs
theorem ZWT (hP:ZGb P A) (hmix:P.follows .mixedOrders=true) {f:FuncId} {an:An} {rc:Cdc} {args:List Value} {h:Hp} {Q:rc.T→Hp→Prop} (hk:fnD A P f an rc args h Q):
 ZG4 P f args.toArray h fun v h'=>∃ r,v=rc.enc r∧Q r h':=by
 unfold fnD at hk
 split at hk
 ·rename_i fn hdf hfn
  split at hk
  ·rename_i c hc
   cases hb:Nat.ble args.length fn.ntmps with
   | false=>rw [hb] at hk; exact hk.elim
   | true=>
     rw [hb] at hk
     have hb:=Nat.le_of_ble_eq_true hb
     intro w fr hle frle dj
     have R:=ZFc (A:=A) hb hdf hle frle dj
     refine calls_of_wp hfn hc (wp_mono (ZDR hP hmix c an _ _ _ h w _ R hk) ?_)
     intro e a' w' hq
     cases e with
     | normal=>
       obtain ⟨bx,env,h',R',hr⟩:=hq
       obtain ⟨r,h1,h2⟩:=ZCa hP R' hr
       exact ⟨R'.defers.trans hdf,_,h1,_,h',rfl,⟨r,rfl,h2⟩,R'.hle,R'.frle,R'.dj,R'.same⟩
     | ret=>
       obtain ⟨bx,env,h',R',hr⟩:=hq
       obtain ⟨r,h1,h2⟩:=ZCa hP R' hr
       exact ⟨R'.defers.trans hdf,_,h1,_,h',rfl,⟨r,rfl,h2⟩,R'.hle,R'.frle,R'.dj,R'.same⟩
     | exit id=>obtain ⟨_,_,_,_,hf⟩:=hq; exact hf.elim
     | goto l=>exact hq.elim
     | panic c=>obtain ⟨_,_,_,_,_,_,hf⟩:=hq; exact hf.elim
     | outgrown=>exact hq.elim
  ·exact hk.elim
 ·exact hk.elim
theorem ZVj (hP:ZGb P A) (hmix:P.follows .mixedOrders=true) {f:FuncId} {an:An} {rc:Cdc} {args:List Value} {h:Hp} {Q:rc.T→Hp→Prop} {F:Prop} (e:fnD A P f an rc args h Q=F) (hk:F):ZA P f args rc h Q:=
 ZWT hP hmix (e.mpr hk)
theorem ZMn (hP:ZGb P A) (hmix:P.follows .mixedOrders=true) {f:FuncId} {an:An} {rc:Cdc} {args:List Value} {h:Hp} {Q:rc.T→Hp→Prop} {S:Value→Hp→Prop} (hk:fnX A P f an rc args h Q S):
 ZEb P f args rc h Q S:=by
 unfold fnX at hk
 split at hk
 ·rename_i fn hdf hfn
  split at hk
  ·rename_i c hc
   cases hb:Nat.ble args.length fn.ntmps with
   | false=>rw [hb] at hk; exact hk.elim
   | true=>
     rw [hb] at hk
     have hb:=Nat.le_of_ble_eq_true hb
     intro w fr hle frle dj
     have R:=ZFc (A:=A) hb hdf hle frle dj
     refine calls_of_wp hfn hc (wp_mono (ZDR hP hmix c an _ _ _ h w _ R hk) ?_)
     intro e a' w' hq
     cases e with
     | normal=>
       obtain ⟨bx,env,h',R',hr⟩:=hq
       obtain ⟨r,h1,h2⟩:=ZCa hP R' hr
       exact ⟨R'.defers.trans hdf,_,h1,_,h',.inl ⟨rfl,r,rfl,h2⟩,R'.hle,R'.frle,R'.dj,R'.same⟩
     | ret=>
       obtain ⟨bx,env,h',R',hr⟩:=hq
       obtain ⟨r,h1,h2⟩:=ZCa hP R' hr
       exact ⟨R'.defers.trans hdf,_,h1,_,h',.inl ⟨rfl,r,rfl,h2⟩,R'.hle,R'.frle,R'.dj,R'.same⟩
     | exit id=>obtain ⟨_,_,_,_,hf⟩:=hq; exact hf.elim
     | goto l=>exact hq.elim
     | panic c=>
       obtain ⟨v,rfl,bx,env,h',R',hr⟩:=hq
       exact ⟨R'.defers.trans hdf,_,h',.inr ⟨rfl,hr⟩,R'.hle,R'.frle,R'.dj,R'.same⟩
     | outgrown=>exact hq.elim
  ·exact hk.elim
 ·exact hk.elim
end
section
variable {A:Ann} {P:Program} {N:Nat} {fr:Hp} {w0:World}
def ZRP (A:Ann) (P:Program) (fn:Func) (rc:Cdc) (Q:rc.T→Hp→Prop) (g:FuncId) (args:List Value):Option Value→Env→Hp→Prop:=
 fun o env h=>ZBk P g args o h fun h'=>ZWv A P fn rc Q env h'
def ZGr (A:Ann) (d:Deferred):Ann:={A with defs:=[d]}
def ZY3 (A:Ann) (P:Program) (f:FuncId) (an:An) (rc:Cdc) (args:List Value) (h:Hp) (Q:rc.T→Hp→Prop):Prop:=
 match A.defs,P.funcs[f]? with
 | [],some fn=>match fn.body with
   | some (.seq (.region _ ops0 false) (.seq (.region _ ops1 false) c))=>bif Nat.ble args.length fn.ntmps&&Nat.beq ops1.size 2 then
      ZH4 A P fn.ntmps ops0 (ZCI ops0.size) (ZVB args) h fun env h=>match ops1[0]?,ops1[1]? with
          | some om,some od=>ZAN A P fn.ntmps ops1 om env h fun env h=>match od.op,od.guard,od.dst with
            | .defer cl,none,none=>match cl.callee,cl.args.toList with
              | .value x,[]=>match look A env x with
                | .v (.func (.func g) first captured)=>match P.funcs[g]? with
                  | some gn=>match gn.body with
                    | some _=>ZAJ (ZGr A ⟨.fn (.func g) captured,first⟩) P fn.ntmps c an env h
                       {n:=ZRP A P fn rc Q g (first.toList++captured.toList) none,x:=fun _ _ _=>False,r:=ZRP A P fn rc Q g (first.toList++captured.toList)}
                    | none=>False
                  | none=>False
                | _=>False
              | _,_=>False
            | _,_,_=>False
          | _,_=>False
     else False
   | _=>False
 | _,_=>False
theorem ZPu {d:Deferred} (hP:ZGb P A):ZGb P (ZGr A d):=⟨hP.good,hP.eqs,hP.dep,hP.noNG,hP.formed⟩
theorem ZUT {d:Deferred} {bx:Nat→Nat} {env:Env} {a:Act} {h:Hp} {w:World} (R:Rel A N bx env a h fr w0 w) (hd:A.defs=[]):Rel (ZGr A d) N bx env {a with defers:=d::a.defers} h fr w0 w:=
 ⟨R.size,by rw [R.defers,hd]; rfl,R.hle,R.frle,R.dj,R.same,R.slot,R.prom,R.inj⟩
theorem ZLh {d:Deferred} {bx:Nat→Nat} {env:Env} {a:Act} {h:Hp} {w:World} (R:Rel (ZGr A d) N bx env a h fr w0 w) (hd:A.defs=[]):Rel A N bx env {a with defers:=[]} h fr w0 w:=
 ⟨R.size,hd.symm,R.hle,R.frle,R.dj,R.same,R.slot,R.prom,R.inj⟩
theorem ZRA (hP:ZGb P A) {id:Nat} {ops:Array Oper} {bx:Nat→Nat} {env:Env} {a:Act} {h:Hp} {w:World} {K:Env→Hp→Prop} (R:Rel A N bx env a h fr w0 w) (hk:ZH4 A P N ops (ZCI ops.size) env h K)
 {Q:Exit→Act→World→Prop} (hQ:∀ a w,St A N fr w0 K a w→Q .normal a w):(Code.region id ops false).wp P Q a w:=by
 have:=ZLD (N:=N) hP (ZCI ops.size) R hk
 rw [show (ZCI ops.size).map Prod.fst=List.range ops.size by simp [ZCI,Function.comp_def]] at this
 intro b k cs
 obtain ⟨e,a',w',hq,ha⟩:=ZE1 (Q:=Q) this (fun a w hk=>hQ a w hk) b k cs
 exact ⟨e,a',w',hq,.of_steps (.one step_region) ha⟩
theorem ZPB {ops:Array Oper} {i:Nat} {rest:List Nat} {o:Oper} {b:Frame} {a:Act} {k:List Item} {cs:List Frame} {w:World} {d:Deferred} (ho:ops[i]?=some o) (hg:o.guard=none) (hdst:o.dst=none)
 (hr:(execOp a.eval o).run P w=.ok (.defer d) w):
 step P (lone (b.at a (.inRegion ops (i::rest)::k)) cs w)=.next (lone (b.at {a with defers:=d::a.defers} (.inRegion ops rest::k)) cs w):=by
 have hw:Region.wanted o (yielded ops a.tmps)=true:=by simp [Region.wanted,hg]
 have hsg:=stepG_op (P:=P) (b:=b) (k:=k) (cs:=cs) (w:=w) (rest:=rest) ho hw
 refine step_lone_go ?_
 have:({b.at a (.inRegion ops (i::rest)::k) with defers:=d::a.defers}:Frame).finish undef=
  b.at ({a with defers:=d::a.defers}.put o.dst undef) (.inRegion ops rest::k):=by
  have:=Frame.finish_at b {a with defers:=d::a.defers} ops i rest k undef
  rw [ho] at this; exact this
 rw [hdst] at this
 rw [hsg]; simp only [stepG.apply,Sem.runT_eq,hr,GStep.bare_after]
 exact congrArg (fun fr=>GStep.go {frame:=fr,callers:=cs,status:=.running,dying:=none} w) this
theorem ZJd (hP:ZGb P A) (hdf:A.defs=[]) {fn:Func} {rc:Cdc} {Q:rc.T→Hp→Prop} {g:FuncId} {gn:Func} {gb:Code} {first captured:Array Value} (hgn:P.funcs[g]?=some gn) (hgb:gn.body=some gb)
 {o:Option Value} {u:FrameMode} (hu:u=match o with|none=>.returning|some v=>.panicking [{v,recovered:=false}])
 {bx:Nat→Nat} {env:Env} {a:Act} {h:Hp} {w:World} (R:Rel (ZGr A ⟨.fn (.func g) captured,first⟩) N bx env a h fr w0 w) (hk:ZRP A P fn rc Q g (first.toList++captured.toList) o env h):
 Leaves P fn a.tmps (fun e w'=>∃ v h',e=.returned v∧(∃ r,v=rc.enc r∧Q r h')∧h'.le w'∧fr.le w'∧h'.dj fr∧ZFx w0 w') a.defers u w:=by
 rw [R.defers]
 have hng:=hP.noNG g gn hgn
 refine leaves_cons (f:=g) (args:=(first.toList++captured.toList).toArray) (by subst hu; cases o<;>simp) ?_ ?_
 ·simp only [invoke,callFunc,Sem.run_bind,run_program,Result.andThen_ok,hgn,hng,Bool.false_eq_true,if_false,hgb,Option.isNone_some]
  congr 2
  simp
 ·have R0:=ZLh R hdf
  have fin:∀ (u':FrameMode),settle u'=.returning→CallsD P g (first.toList++captured.toList).toArray u w (fun e u2 w'=>∃ v h',e=.returned v∧u2=u'∧ZWv A P fn rc Q env h'∧h'.le w'∧((ZEn bx env w).un fr).le w'∧h'.dj ((ZEn bx env w).un fr)∧ZFx w w')→
   CallsD P g (first.toList++captured.toList).toArray u w fun
    | .returned _,u',w'=>Leaves P fn a.tmps (fun e w'=>∃ v h',e=.returned v∧(∃ r,v=rc.enc r∧Q r h')∧h'.le w'∧fr.le w'∧h'.dj fr∧ZFx w0 w') [] (settle u') w'
    | .panicked chain,u',w'=>Leaves P fn a.tmps (fun e w'=>∃ v h',e=.returned v∧(∃ r,v=rc.enc r∧Q r h')∧h'.le w'∧fr.le w'∧h'.dj fr∧ZFx w0 w') [] (raised u' chain) w'
    | .outgrown,_,w'=>(fun e w'=>∃ v h',e=Ending.returned v∧(∃ r,v=rc.enc r∧Q r h')∧h'.le w'∧fr.le w'∧h'.dj fr∧ZFx w0 w') .outgrown w':=by
   intro u' hs hc
   refine hc.mono ?_
   rintro e u2 w' ⟨v,h',rfl,rfl,hret,hle',hfr,hdj,sm⟩
   have R':=R0.called hle' hfr hdj sm
   obtain ⟨r,h1,h2⟩:=ZCa hP R' hret
   dsimp only
   rw [hs]
   exact ⟨_,h1,_,h',rfl,⟨r,rfl,h2⟩,R'.hle,R'.frle,R'.dj,R'.same⟩
  cases o with
  | none=>
    subst hu
    exact fin .returning rfl (hk w _ R0.hle (Hp.un_le R0.boxes_le R0.frle) (Hp.dj_un R0.boxes_dj R0.dj))
  | some v=>
    subst hu
    exact fin (.panicking [{v,recovered:=true}]) rfl (hk w _ R0.hle (Hp.un_le R0.boxes_le R0.frle) (Hp.dj_un R0.boxes_dj R0.dj))
theorem ZJ2 (hP:ZGb P A) (hmix:P.follows .mixedOrders=true) {f:FuncId} {an:An} {rc:Cdc} {args:List Value} {h:Hp} {Q:rc.T→Hp→Prop} (hk:ZY3 A P f an rc args h Q):ZA P f args rc h Q:=by
 unfold ZY3 at hk
 split at hk
 ·rename_i fn hdf hfn
  split at hk
  ·rename_i id0 ops0 id1 ops1 c hbody
   cases hb:(Nat.ble args.length fn.ntmps&&Nat.beq ops1.size 2) with
   | false=>rw [hb] at hk; exact hk.elim
   | true=>
     rw [hb] at hk
     simp only [cond_true] at hk
     simp only [Bool.and_eq_true] at hb
     have hb1:=Nat.le_of_ble_eq_true hb.1
     have hb2:ops1.size=2:=ZFC.1 hb.2
     intro w fr hle frle dj
     have R:=ZFc (A:=A) hb1 hdf hle frle dj
     refine calls_of_wp_defers hfn hbody (wp_seq (ZRA hP R hk fun a1 w1 hs1=>?_))
     obtain ⟨bx1,env1,h1,R1,hk1⟩:=hs1
     show (Code.seq _ _).wp P _ a1 w1
     split at hk1
     ·rename_i om od hom hod
      refine wp_seq ?_
      intro b k cs
      have hr2:List.range ops1.size=[0,1]:=by rw [hb2]; rfl
      obtain ⟨a2,w2,⟨bx2,env2,h2,R2,hk2⟩,hs2⟩:=ZEF hP R1 hom hk1 b [1] k cs
      obtain ⟨dst,op,type,pos,after,guard⟩:=od
      dsimp only at hk2
      split at hk2
      ·rename_i cl
       split at hk2
       ·rename_i x hcal hargs
        split at hk2
        ·rename_i g first captured hl
         split at hk2
         ·rename_i gn hgn
          split at hk2
          ·rename_i gb hgb
           obtain ⟨callee,cargs,cats⟩:=cl
           dsimp only at hcal hargs
           subst hcal
           have hcargs:cargs=#[]:=by simpa using hargs
           subst hcargs
           have hrun:(execOp a2.eval ⟨none,.defer ⟨.value x,#[],cats⟩,type,pos,after,none⟩).run P w2=.ok (.defer ⟨.fn (.func g) captured,first⟩) w2:=by
                    simp [execOp,resolve,Deferred.ofValue,R2.eval_v hl]
           have hs3:=ZPB (P:=P) (b:=b) (k:=k) (cs:=cs) (rest:=[]) hod rfl rfl hrun
           have R3:=ZUT (d:=⟨.fn (.func g) captured,first⟩) R2 hdf
           refine ⟨.normal,{a2 with defers:=⟨.fn (.func g) captured,first⟩::a2.defers},w2,?_,.of_steps (.one step_region) ?_⟩
           ·refine wp_mono (ZDR (ZPu hP) hmix c an _ _ _ h2 w2 _ R3 hk2) ?_
            intro e a4 w4 hq
            cases e with
            | normal=>obtain ⟨bx,env,h',R',hr⟩:=hq; exact ZJd (fn:=fn) (rc:=rc) (Q:=Q) (o:=none) hP hdf hgn hgb rfl R' hr
            | ret=>obtain ⟨bx,env,h',R',hr⟩:=hq; exact ZJd (fn:=fn) (rc:=rc) (Q:=Q) (o:=none) hP hdf hgn hgb rfl R' hr
            | exit id=>obtain ⟨_,_,_,_,hf⟩:=hq; exact hf.elim
            | goto l=>exact hq.elim
            | panic ch=>obtain ⟨v,rfl,bx,env,h',R',hr⟩:=hq; exact ZJd (fn:=fn) (rc:=rc) (Q:=Q) (o:=some v) hP hdf hgn hgb rfl R' hr
            | outgrown=>exact hq.elim
           ·rw [hr2]
            exact Steps.trans hs2 (.head hs3 (.one step_region_end))
          ·exact hk2.elim
         ·exact hk2.elim
        ·exact hk2.elim
       ·exact hk2.elim
      ·exact hk2.elim
     ·exact hk1.elim
  ·exact hk.elim
 ·exact hk.elim
def ZJC:Option Value→Value
 | none=>.nilIface
 | some v=>v
def ZPL (A:Ann) (P:Program) (f:FuncId) (an:An) (args:List Value) (o:Option Value) (h:Hp) (K:Hp→Prop):Prop:=
 match A.defs,P.funcs[f]? with
 | [],some fn=>match fn.results.toList,fn.body with
   | [],some (.seq (.region _ ops false) c)=>match ops.toList with
     | [⟨some d0,.call ⟨.builtin .recover,⟨[]⟩,_⟩,_,_,_,none⟩,⟨some d1,.assign (.tmp d2),_,_,_,none⟩]=>
       bif Nat.ble args.length fn.ntmps&&(Nat.ble (d0+1) fn.ntmps&&(Nat.ble (d1+1) fn.ntmps&&Nat.beq d2 d0)) then
         ZAJ A P fn.ntmps c an (put A (put A (ZVB args) (some d0) (.val (ZJC o))) (some d1) (.val (ZJC o))) h {n:=fun _ h=>K h,x:=fun _ _ _=>False,r:=ZZF (fun _ h=>K h) fun _ _ _=>False}
       else False
     | _=>False
   | _,_=>False
 | _,_=>False
theorem ZEJ (hP:ZGb P A) (hmix:P.follows .mixedOrders=true) {f:FuncId} {an:An} {args:List Value} {o:Option Value} {h:Hp} {K:Hp→Prop} (hk:ZPL A P f an args o h K):ZBk P f args o h K:=by
 unfold ZPL at hk
 split at hk
 ·rename_i fn hdf hfn
  split at hk
  ·rename_i id ops c hres hbody
   split at hk
   ·rename_i d0 ats t0 p0 af0 d1 d2 t1 p1 af1 hops
    cases hb:(Nat.ble args.length fn.ntmps&&(Nat.ble (d0+1) fn.ntmps&&(Nat.ble (d1+1) fn.ntmps&&Nat.beq d2 d0))) with
    | false=>rw [hb] at hk; exact hk.elim
    | true=>
      rw [hb] at hk
      simp only [cond_true] at hk
      simp only [Bool.and_eq_true] at hb
      obtain ⟨hb1,hb2,hb3,hb4⟩:=hb
      have hb1:=Nat.le_of_ble_eq_true hb1
      have hb2:=Nat.le_of_ble_eq_true hb2
      have hb3:=Nat.le_of_ble_eq_true hb3
      have hb4:d2=d0:=ZFC.1 hb4
      subst hb4
      have hops':ops=#[⟨some d2,.call ⟨.builtin .recover,#[],ats⟩,t0,p0,af0,none⟩,⟨some d1,.assign (.tmp d2),t1,p1,af1,none⟩]:=by
       apply Array.ext'; exact hops
      subst hops'
      have key:∀ (u u':FrameMode),(∀ (c₀:Frame) (cs:List Frame),c₀.mode=u→(match recoverD (c₀::cs) with|some (v,cs')=>v=ZJC o∧cs'={c₀ with mode:=u'}::cs|none=>ZJC o=.nilIface∧u'=u))→
       ZVp P f args.toArray u u' h K:=by
       intro u u' hrec w fr hle frle dj
       have R:=ZFc (A:=A) hb1 hdf hle frle dj
       refine callsD_of_wpS hfn hbody fun c₀ cs hu=>wpS_seq (wpS_region ?_)
       have R1:=(R.put hP.good (d:=some d2) (fun k hk=>by cases hk; exact hb2) (ev:=.val (ZJC o)) (v:=ZJC o) rfl)
       have R2:=(R1.put hP.good (d:=some d1) (fun k hk=>by cases hk; exact hb3) (ev:=.val (ZJC o)) (v:=ZJC o) rfl)
       have hslot:((({tmps:=args.toArray++Array.replicate (fn.ntmps-args.toArray.size) undef,defers:=[]}:Act).put (some d2) (ZJC o)).eval (.tmp d2))=ZJC o:=by
        have:=ZCq ({tmps:=args.toArray++Array.replicate (fn.ntmps-args.toArray.size) undef,defers:=[]}:Act) (d:=d2) (ZJC o) (by rw [R.size]; omega)
        show (Array.getD _ _ _)=_
        rw [Array.getD_eq_getD_getElem?,this]; rfl
       have fin:∀ cs',cs'=({c₀ with mode:=u'}:Frame)::cs→c.wpS P (bodyPostS P fn c₀ cs fun e u2 w'=>∃ v h',e=.returned v∧u2=u'∧K h'∧h'.le w'∧fr.le w'∧h'.dj fr∧ZFx w w')
        ((({tmps:=args.toArray++Array.replicate (fn.ntmps-args.toArray.size) undef,defers:=[]}:Act).put (some d2) (ZJC o)).put (some d1) (ZJC o)) cs' w:=by
        rintro cs' rfl
        refine wpS_of_wp (wp_mono (ZDR hP hmix c an _ _ _ h w _ R2 hk) ?_)
        have hresults:∀ (t:Array Value) (w:World),(results fn t).run P w=.ok (.tuple #[]) w:=by
         intro t w
         have:fn.results=#[]:=by apply Array.ext'; exact hres
         simp [results,this]
        intro e a' w' hq
        cases e with
        | normal=>obtain ⟨bx,env,h',R',hr⟩:=hq; exact ⟨R'.defers.trans hdf,u',rfl,_,hresults _ _,_,h',rfl,rfl,hr,R'.hle,R'.frle,R'.dj,R'.same⟩
        | ret=>obtain ⟨bx,env,h',R',hr⟩:=hq; exact ⟨R'.defers.trans hdf,u',rfl,_,hresults _ _,_,h',rfl,rfl,hr,R'.hle,R'.frle,R'.dj,R'.same⟩
        | exit id=>obtain ⟨_,_,_,_,hf⟩:=hq; exact hf.elim
        | goto l=>exact hq.elim
        | panic ch=>obtain ⟨_,_,_,_,_,_,hf⟩:=hq; exact hf.elim
        | outgrown=>exact hq.elim
       have hrec:=hrec c₀ cs hu
       have hrun1:∀ (a:Act),(execOp a.eval ⟨some d2,.call ⟨.builtin .recover,#[],ats⟩,t0,p0,af0,none⟩).run P w=.ok .recover w:=by
        intro a; rfl
       show wpOpsS P _ _ [0,1] _ _ _
       simp only [wpOpsS,List.getElem?_toArray,List.getElem?_cons_zero,List.getElem?_cons_succ,Region.wanted,if_true,hrun1]
       split at hrec
       ·rename_i v cs' hr
        obtain ⟨rfl,rfl⟩:=hrec
        rw [hr]
        dsimp only
        rw [show (execOp (Act.eval (({tmps:=args.toArray++Array.replicate (fn.ntmps-args.toArray.size) undef,defers:=[]}:Act).put (some d2) (ZJC o))) ⟨some d1,.assign (.tmp d2),t1,p1,af1,none⟩).run P w=.ok (.value (ZJC o)) w by
         rw [show execOp (Act.eval (({tmps:=args.toArray++Array.replicate (fn.ntmps-args.toArray.size) undef,defers:=[]}:Act).put (some d2) (ZJC o))) ⟨some d1,.assign (.tmp d2),t1,p1,af1,none⟩=pure (.value (Act.eval _ (.tmp d2))) from rfl,hslot]; rfl]
        exact fin _ rfl
       ·rename_i hr
        obtain ⟨hn,rfl⟩:=hrec
        rw [hr]
        dsimp only
        rw [←hn]
        rw [show (execOp (Act.eval (({tmps:=args.toArray++Array.replicate (fn.ntmps-args.toArray.size) undef,defers:=[]}:Act).put (some d2) (ZJC o))) ⟨some d1,.assign (.tmp d2),t1,p1,af1,none⟩).run P w=.ok (.value (ZJC o)) w by
         rw [show execOp (Act.eval (({tmps:=args.toArray++Array.replicate (fn.ntmps-args.toArray.size) undef,defers:=[]}:Act).put (some d2) (ZJC o))) ⟨some d1,.assign (.tmp d2),t1,p1,af1,none⟩=pure (.value (Act.eval _ (.tmp d2))) from rfl,hslot]; rfl]
        exact fin _ (by subst hu; rfl)
      cases o with
      | none=>exact key _ _ fun c₀ cs hu=>by simp only [recoverD,hu]; exact ⟨rfl,trivial⟩
      | some v=>exact key _ _ fun c₀ cs hu=>by simp only [recoverD,hu]; exact ⟨rfl,trivial⟩
   ·exact hk.elim
  ·exact hk.elim
 ·exact hk.elim
end
structure Sl where
 a:Option Addr
 len:Nat
 cap:Nat
inductive Lk where
 | i (k:IntKind)
 | b
 | s
 | p
 | sl
 | c
abbrev Lk.T:Lk→Type
 | .i _=>Int
 | .b=>Bool
 | .s=>ByteArray
 | .p=>Option Addr
 | .sl=>Sl
 | .c=>Option Nat
def Lk.enc:(l:Lk)→l.T→Value
 | .i k,x=>.int k x
 | .b,x=>.bool x
 | .s,x=>.string x
 | .p,x=>.pointer x
 | .sl,x=>.slice x.a x.len x.cap
 | .c,x=>.chan x
def dI (k:IntKind):Value→Option Int
 | .int j n=>match decide (j=k) with
   | true=>some n
   | false=>none
 | _=>none
def dB:Value→Option Bool
 | .bool b=>some b
 | _=>none
def dS:Value→Option ByteArray
 | .string s=>some s
 | _=>none
def dP:Value→Option (Option Addr)
 | .pointer p=>some p
 | _=>none
def dSl:Value→Option Sl
 | .slice a l c=>some ⟨a,l,c⟩
 | _=>none
def dC:Value→Option (Option Nat)
 | .chan c=>some c
 | _=>none
def Lk.dec:(l:Lk)→Value→Option l.T
 | .i k,v=>dI k v
 | .b,v=>dB v
 | .s,v=>dS v
 | .p,v=>dP v
 | .sl,v=>dSl v
 | .c,v=>dC v
theorem Lk.law (l:Lk) (v:Value) (x:l.T) (h:l.dec v=some x):l.enc x=v:=by
 cases l
 case i k=>
  simp only [Lk.dec] at h
  unfold dI at h
  split at h
  ·split at h
   ·rename_i hd; have:=of_decide_eq_true hd; subst this; cases h; rfl
   ·cases h
  ·cases h
 case b=>simp only [Lk.dec] at h; unfold dB at h; split at h<;>cases h; rfl
 case s=>simp only [Lk.dec] at h; unfold dS at h; split at h<;>cases h; rfl
 case p=>simp only [Lk.dec] at h; unfold dP at h; split at h<;>cases h; rfl
 case sl=>simp only [Lk.dec] at h; unfold dSl at h; split at h<;>cases h; rfl
 case c=>simp only [Lk.dec] at h; unfold dC at h; split at h<;>cases h; rfl
theorem Lk.ecd (l:Lk) (x:l.T):l.dec (l.enc x)=some x:=by
 cases l
 case i k=>simp only [Lk.dec,Lk.enc,dI,decide_true]
 all_goals rfl
theorem Lk.one (l:Lk) (x:l.T):ZF7 (l.enc x)=true:=by cases l<;>rfl
abbrev ZOa (l:Lk):Cdc where
 T:=l.T
 enc:=l.enc
 dec:=l.dec
 agg:=false
 n:=1
 law:=l.law
 ecd:=l.ecd
 mem:=true
 form:=fun _ x=>⟨l.one x,rfl⟩
abbrev cI (k:IntKind):Cdc:=ZOa (.i k)
abbrev cB:Cdc:=ZOa .b
abbrev cS:Cdc:=ZOa .s
abbrev cP:Cdc:=ZOa .p
abbrev cSl:Cdc:=ZOa .sl
abbrev cC:Cdc:=ZOa .c
structure FnV where
 g:Nat
 first:Array Value
 cap:Array Value
abbrev cF:Cdc where
 T:=FnV
 enc x:=.func (.func x.g) x.first x.cap
 dec v:=match v with
  | .func (.func g) a b=>some ⟨g,a,b⟩
  | _=>none
 agg:=false
 n:=1
 law:=by
  intro v x h
  split at h
  ·cases h; rfl
  ·cases h
 ecd:=fun _=>rfl
 mem:=true
 form:=fun _ _=>⟨rfl,rfl⟩
abbrev cM:Cdc where
 T:=Option Nat
 enc x:=.map x
 dec v:=match v with
  | .map x=>some x
  | _=>none
 agg:=false
 n:=1
 law:=by
  intro v x h
  split at h
  ·cases h; rfl
  ·cases h
 ecd:=fun _=>rfl
 mem:=true
 form:=fun _ _=>⟨rfl,rfl⟩
abbrev LT:List Lk→Type
 | []=>Unit
 | [x]=>x.T
 | x::y::l=>x.T×LT (y::l)
def ZJk:(l:List Lk)→LT l→List Value
 | [],_=>[]
 | [x],v=>[x.enc v]
 | x::y::l,v=>x.enc v.1::ZJk (y::l) v.2
def ZXN:(l:List Lk)→List Value→Option (LT l)
 | [],vs=>match vs with
   | []=>some ()
   | _::_=>none
 | [x],vs=>match vs with
   | [v]=>x.dec v
   | _=>none
 | x::y::l,vs=>match vs with
   | v::vs=>match x.dec v with
     | some z=>match ZXN (y::l) vs with
       | some r=>some (z,r)
       | none=>none
     | none=>none
   | []=>none
theorem ZU2:∀ (l:List Lk) (vs:List Value) (x:LT l),ZXN l vs=some x→ZJk l x=vs:=by
 intro l
 induction l with
 | nil=>intro vs x h; cases vs<;>first|rfl|cases h
 | cons t l ih=>
   cases l with
   | nil=>
     intro vs x h
     match vs,h with
     | [v],h=>exact congrArg (fun z=>[z]) (t.law v x h)
   | cons u l=>
     intro vs x h
     match vs,h with
     | v::vs,h=>
       unfold ZXN at h
       dsimp only at h
       split at h
       ·rename_i z hz
        split at h
        ·rename_i r hr
         cases h
         show t.enc z::ZJk (u::l) r=_
         rw [t.law v z hz,ih vs r hr]
        ·cases h
       ·cases h
theorem ZUN:∀ (l:List Lk) (x:LT l),ZXN l (ZJk l x)=some x:=by
 intro l
 induction l with
 | nil=>intro x; rfl
 | cons t l ih=>
   cases l with
   | nil=>intro x; exact t.ecd x
   | cons u l=>
     intro x
     have h1:=t.ecd x.1
     have h2:=ih x.2
     unfold ZJk ZXN
     dsimp only
     rw [h1]
     dsimp only
     rw [h2]
theorem ZNW:∀ (l:List Lk) (x:LT l),(ZJk l x).length=l.length:=by
 intro l
 induction l with
 | nil=>intro x; rfl
 | cons t l ih=>
   cases l with
   | nil=>intro x; rfl
   | cons u l=>intro x; exact congrArg (·+1) (ih x.2)
theorem ZTI:∀ (l:List Lk) (x:LT l),∀ v∈ZJk l x,ZF7 v=true:=by
 intro l
 induction l with
 | nil=>intro x v hv; cases hv
 | cons t l ih=>
   cases l with
   | nil=>intro x v hv; rw [show ZJk [t] x=[t.enc x] from rfl,List.mem_singleton] at hv; subst hv; exact t.one x
   | cons u l=>
     intro x v hv
     rw [show ZJk (t::u::l) x=t.enc x.1::ZJk (u::l) x.2 from rfl,List.mem_cons] at hv
     rcases hv with rfl|hv
     ·exact t.one _
     ·exact ih x.2 v hv
def ZZJ {S:Type} (l:List Lk) (to:LT l→S):Value→Option S
 | .agg a=>match ZXN l a.toList with
   | some x=>some (to x)
   | none=>none
 | _=>none
abbrev ZCs (S:Type) (l:List Lk) (to:LT l→S) (of:S→LT l) (h1:∀ x,of (to x)=x) (h2:∀ s,to (of s)=s):Cdc where
 T:=S
 enc s:=.agg (ZJk l (of s)).toArray
 dec:=ZZJ l to
 agg:=true
 n:=l.length
 law:=by
  intro v x h
  unfold ZZJ at h
  split at h
  ·split at h
   ·rename_i y hy
    cases h
    rw [h1,ZU2 l _ y hy]
   ·cases h
  ·cases h
 ecd:=by
  intro x
  simp only [ZZJ,ZUN,h2]
 mem:=true
 form:=fun _ x=>⟨_,rfl,ZNW l _,ZTI l _⟩
abbrev TT:List Cdc→Type
 | []=>Unit
 | [x]=>x.T
 | x::y::l=>x.T×TT (y::l)
def ZXS:(l:List Cdc)→TT l→List Value
 | [],_=>[]
 | [x],v=>[x.enc v]
 | x::y::l,v=>x.enc v.1::ZXS (y::l) v.2
def ZXQ:(l:List Cdc)→List Value→Option (TT l)
 | [],vs=>match vs with
   | []=>some ()
   | _::_=>none
 | [x],vs=>match vs with
   | [v]=>x.dec v
   | _=>none
 | x::y::l,vs=>match vs with
   | v::vs=>match x.dec v with
     | some z=>match ZXQ (y::l) vs with
       | some r=>some (z,r)
       | none=>none
     | none=>none
   | []=>none
theorem ZTS:∀ (l:List Cdc) (vs:List Value) (x:TT l),ZXQ l vs=some x→ZXS l x=vs:=by
 intro l
 induction l with
 | nil=>intro vs x h; cases vs<;>first|rfl|cases h
 | cons t l ih=>
   cases l with
   | nil=>
     intro vs x h
     match vs,h with
     | [v],h=>exact congrArg (fun z=>[z]) (t.law v x h)
   | cons u l=>
     intro vs x h
     match vs,h with
     | v::vs,h=>
       unfold ZXQ at h
       dsimp only at h
       split at h
       ·rename_i z hz
        split at h
        ·rename_i r hr
         cases h
         show t.enc z::ZXS (u::l) r=_
         rw [t.law v z hz,ih vs r hr]
        ·cases h
       ·cases h
theorem ZT4:∀ (l:List Cdc) (x:TT l),ZXQ l (ZXS l x)=some x:=by
 intro l
 induction l with
 | nil=>intro x; rfl
 | cons t l ih=>
   cases l with
   | nil=>intro x; exact t.ecd x
   | cons u l=>
     intro x
     have h1:=t.ecd x.1
     have h2:=ih x.2
     unfold ZXS ZXQ
     dsimp only
     rw [h1]
     dsimp only
     rw [h2]
def ZQk (l:List Cdc):Value→Option (TT l)
 | .tuple a=>ZXQ l a.toList
 | _=>none
abbrev ZW (l:List Cdc):Cdc where
 T:=TT l
 enc x:=.tuple (ZXS l x).toArray
 dec:=ZQk l
 agg:=false
 n:=0
 law:=by
  intro v x h
  unfold ZQk at h
  split at h
  ·rw [ZTS l _ x h]
  ·cases h
 ecd:=by intro x; simp only [ZQk,ZT4]
 mem:=false
 form:=fun h=>by cases h
def ZCH:List Nat→Nat→Bool
 | [],_=>false
 | x::l,n=>bif Nat.beq n x then true else ZCH l n
theorem ZS4 {l:List Nat} {n:Nat}:ZCH l n=true→n∈l:=by
 induction l with
 | nil=>intro h; cases h
 | cons x l ih=>
   intro h
   unfold ZCH at h
   cases hb:Nat.beq n x with
   | true=>rw [ZFC.1 hb]; exact List.mem_cons_self
   | false=>rw [hb] at h; exact List.mem_cons_of_mem _ (ih h)
def ZL4 (P:Program) (i:TypeInfo):Bool:=
 match i.desc with
 | .named _ u=>(P.info? u).isSome
 | _=>true
theorem ZLi {info:TypeId→Option TypeInfo} {d:TypeDesc} {i:TypeInfo} (h:Made.reckon info d=some i):∀ n u,i.desc≠.named n u:=by
 intro n u hd
 unfold Made.reckon at h
 cases d<;>dsimp only at h
 case struct fs=>
  unfold Made.reckonStruct at h
  simp only [Option.pure_def,Option.bind_eq_bind,Option.bind_eq_some_iff] at h
  obtain ⟨r,_,h⟩:=h
  split at h<;>(cases h; cases hd)
 all_goals first|(cases h; done)|skip
 case pointer e=>
  cases he:info e with
  | none=>rw [he] at h; cases h
  | some x=>
    rw [he] at h
    change (match x.desc with
     | .named _ _=>none
     | .struct fs=>if fs.any (·.embedded) then none else _
     | _=>_)=some i at h
    cases hs:Made.spell x with
    | none=>simp only [hs] at h; split at h<;>first|(cases h; done)|(split at h<;>cases h; done)
    | some y=>simp only [hs] at h; split at h<;>first|(cases h; done)|(cases h; cases hd; done)|(split at h<;>first|(cases h; done)|(cases h; cases hd; done))
 case slice e=>
  simp only [Option.pure_def,Option.bind_eq_bind,Option.bind_eq_some_iff,Made.word] at h
  obtain ⟨x,_,y,_,h⟩:=h
  cases h; cases hd
 case map k e=>
  simp only [Option.pure_def,Option.bind_eq_bind,Option.bind_eq_some_iff,Made.word] at h
  obtain ⟨x,_,y,_,z,_,v,_,h⟩:=h
  cases h; cases hd
 case chan d e=>
  simp only [Option.pure_def,Option.bind_eq_bind,Option.bind_eq_some_iff,Made.word] at h
  obtain ⟨x,_,y,_,h⟩:=h
  cases h; cases hd
 case func ps rs v=>
  simp only [Option.pure_def,Option.bind_eq_bind,Option.bind_eq_some_iff,Made.word] at h
  obtain ⟨x,_,h⟩:=h
  cases h; cases hd
 case array n e=>
  simp only [Option.pure_def,Option.bind_eq_bind,Option.bind_eq_some_iff] at h
  obtain ⟨x,_,y,_,h⟩:=h
  cases h; cases hd
theorem ZMS {T:Tables}:∀ (f:Nat) {t:TypeId} {i:TypeInfo},¬t<T.types.size→Made.infoAt T f t=some i→∀ n u,i.desc≠.named n u:=by
 intro f
 cases f with
 | zero=>intro t i _ h; cases h
 | succ f=>
   intro t i ht h
   unfold Made.infoAt at h
   rw [if_neg ht] at h
   simp only [Option.bind_eq_some_iff] at h
   obtain ⟨d,_,h⟩:=h
   exact ZLi h
def ZOu (P:Program):Bool:=
 P.types.toList.all (ZL4 P)&&P.funcs.toList.all fun fn=>!(fn.name == "runtime.NumGoroutine")
theorem ZRq {P:Program} (h:ZOu P=true):ZU5 P:=by
 intro t n hn
 simp only [ZOu,Bool.and_eq_true,List.all_eq_true] at h
 unfold ZAl at hn
 cases hi:P.info? t with
 | none=>rw [hi] at hn; cases hn
 | some i=>
   unfold Program.underlying
   rw [hi]
   cases hd:i.desc with
   | named nm u=>
     have hnamed:ZL4 P i=true:=by
      by_cases ht:t<P.types.size
      ·have:P.types[t]?=some i:=by
         unfold Tables.info? at hi
         rw [if_pos ht] at hi; exact hi
       exact h.1 i (Array.mem_toList_iff.2 (Array.mem_of_getElem? this))
      ·unfold Tables.info? at hi
       rw [if_neg ht] at hi
       exact absurd hd (ZMS _ ht hi _ _)
     unfold ZL4 at hnamed
     rw [hd] at hnamed
     dsimp only at hnamed
     obtain ⟨j,hj⟩:=Option.isSome_iff_exists.1 hnamed
     refine ⟨j.desc,?_⟩
     obtain ⟨desc,_⟩:=i
     cases hd
     simp [hj]
   | _=>
     refine ⟨i.desc,?_⟩
     obtain ⟨desc,_⟩:=i
     cases hd
     rfl
theorem ZWG {P:Program} (h:ZOu P=true):ZZg P:=by
 intro g fn hg
 simp only [ZOu,Bool.and_eq_true,List.all_eq_true] at h
 have:=h.2 fn (Array.mem_toList_iff.2 (Array.mem_of_getElem? hg))
 simpa using this
def ZXj (A:Ann):Bool:=A.refs.all fun x=>!A.isProm x.1
theorem ZLw:∀ {l:List (Nat×Nat)} {s t:Nat},ZJT l s=some t→(s,t)∈l:=by
 intro l
 induction l with
 | nil=>intro s t h; cases h
 | cons x l ih=>
   intro s t h
   obtain ⟨a,b⟩:=x
   unfold ZJT at h
   cases hb:Nat.beq s a with
   | true=>rw [hb] at h; simp only [cond_true,Option.some.injEq] at h; rw [ZFC.1 hb,h]; exact List.mem_cons_self
   | false=>rw [hb] at h; exact List.mem_cons_of_mem _ (ih h)
theorem ZDZ {P:Program} {A:Ann} {l:List Nat} (hp:ZOu P=true) (hd:Nat.ble 20 P.depth=true) (hl:l.all (ZUi P 20)=true) (he:A.eqs=ZCH l) (hg:ZXj A=true):ZGb P A where
 good:=by
  intro s t h
  have:=List.all_eq_true.1 hg _ (ZLw h)
  simpa using this
 eqs:=by
  intro t h
  rw [he] at h
  exact List.all_eq_true.1 hl t (ZS4 h)
 dep:=Nat.le_of_ble_eq_true hd
 noNG:=ZWG hp
 formed:=ZRq hp
def On (h:Hp) (l:List Hp):Prop:=l.Pairwise Hp.dj∧∀ c∈l,c.sub h
theorem On.mem {h:Hp} {l:List Hp} (o:On h l) {c:Hp} (hc:c∈l):c.sub h:=o.2 c hc
theorem On.get {h:Hp} {l:List Hp} (o:On h l) {i:Nat} {c:Hp} (hc:l[i]?=some c):c.sub h:=o.2 c (List.mem_of_getElem? hc)
theorem On.nil (h:Hp):On h []:=⟨List.Pairwise.nil,fun _ h=>by cases h⟩
theorem On.self (h:Hp):On h [h]:=⟨List.pairwise_singleton _ _,fun c hc=>by rw [List.mem_singleton] at hc; subst hc; exact Hp.sub_refl _⟩
theorem On.perm {h:Hp} {l l':List Hp} (o:On h l) (p:l.Perm l'):On h l':=
 ⟨(p.pairwise_iff fun hd=>Hp.dj_symm hd).1 o.1,fun c hc=>o.2 c (p.mem_iff.2 hc)⟩
theorem On.sublist {h:Hp} {l l':List Hp} (o:On h l) (s:l'.Sublist l):On h l':=⟨o.1.sublist s,fun c hc=>o.2 c (s.subset hc)⟩
theorem On.tail {h:Hp} {c:Hp} {l:List Hp} (o:On h (c::l)):On h l:=o.sublist (List.sublist_cons_self c l)
theorem On.swap {h:Hp} {c d:Hp} {l:List Hp} (o:On h (c::d::l)):On h (d::c::l):=o.perm (List.Perm.swap d c l)
theorem On.rot3 {h:Hp} {a b c:Hp} {l:List Hp} (o:On h (a::b::c::l)):On h (c::a::b::l):=
 o.perm ((List.Perm.cons a (List.Perm.swap c b l)).trans (List.Perm.swap c a _))
theorem On.pull {h:Hp} {l:List Hp} (o:On h l) (i:Nat) {c:Hp} (hc:l[i]?=some c):On h (c::l.eraseIdx i):=by
 have:l.Perm (c::l.eraseIdx i):=by
  induction l generalizing i with
  | nil=>cases hc
  | cons x l ih=>
    cases i with
    | zero=>simp at hc; subst hc; exact List.Perm.refl _
    | succ i=>
      simp only [List.getElem?_cons_succ] at hc
      exact (List.Perm.cons x (ih (o.tail) i hc)).trans (List.Perm.swap c x _)
 exact o.perm this
theorem On.apart {h:Hp} {c d:Hp} {l:List Hp} (o:On h (c::l)) (hd:d∈l):c.dj d:=(List.pairwise_cons.1 o.1).1 d hd
theorem Hp.sub_dj {c c' d:Hp} (s:c'.sub c) (hd:c.dj d):c'.dj d:=by
 intro b
 rcases hd b with e|e
 ·left
  cases hc:c' b with
  | none=>rfl
  | some o=>rw [s _ _ hc] at e; cases e
 ·exact .inr e
theorem Hp.sub_trans {a b c:Hp} (h1:a.sub b) (h2:b.sub c):a.sub c:=fun _ _ h=>h2 _ _ (h1 _ _ h)
theorem On.split {h:Hp} {c:Hp} {l cs:List Hp} (o:On h (c::l)) (oc:On c cs):On h (cs++l):=by
 refine ⟨List.pairwise_append.2 ⟨oc.1,o.tail.1,fun x hx y hy=>Hp.sub_dj (oc.2 x hx) (o.apart hy)⟩,fun x hx=>?_⟩
 rcases List.mem_append.1 hx with hx|hx
 ·exact Hp.sub_trans (oc.2 x hx) (o.2 c (by simp))
 ·exact o.2 x (by simp [hx])
theorem Hp.sub_un_l (a b:Hp):a.sub (a.un b):=fun k o h=>by simp [Hp.un,h]
theorem Hp.sub_un_r {a b:Hp} (d:a.dj b):b.sub (a.un b):=fun k o h=>by
 rcases d k with e|e
 ·simp [Hp.un,e,h]
 ·rw [h] at e; cases e
def ZIz:List Hp→Hp
 | []=>Hp.emp
 | c::l=>c.un (ZIz l)
theorem On.joined {h:Hp}:∀ {cs l:List Hp},On h (cs++l)→On h (ZIz cs::l)∧On (ZIz cs) cs:=by
 intro cs
 induction cs with
 | nil=>
   intro l o
   refine ⟨⟨List.pairwise_cons.2 ⟨fun d _ b=>.inl rfl,o.1⟩,fun c hc=>?_⟩,On.nil _⟩
   rcases List.mem_cons.1 hc with rfl|hc
   ·intro b o h; cases h
   ·exact o.2 c hc
 | cons c cs ih=>
   intro l o
   obtain ⟨h1,h2⟩:=ih o.tail
   have hcd:c.dj (ZIz cs):=by
    have:∀ {cs':List Hp},(∀ d∈cs',c.dj d)→c.dj (ZIz cs'):=by
     intro cs'
     induction cs' with
     | nil=>intro _ b; exact .inr rfl
     | cons x cs' ih=>intro hx; exact Hp.dj_un (hx x (by simp)) (ih fun d hd=>hx d (by simp [hd]))
    exact this fun d hd=>o.apart (by simp [hd])
   refine ⟨⟨List.pairwise_cons.2 ⟨fun d hd=>Hp.un_dj (o.apart (by simp [hd])) (h1.apart hd),h1.tail.1⟩,fun d hd=>?_⟩,⟨List.pairwise_cons.2 ⟨fun d hd=>o.apart (by simp [hd]),h2.1⟩,fun d hd=>?_⟩⟩
   ·rcases List.mem_cons.1 hd with rfl|hd
    ·intro k ob hk
     unfold ZIz Hp.un at hk
     split at hk
     ·rename_i o' e; cases hk; exact o.2 c (by simp) _ _ e
     ·exact h1.2 (ZIz cs) (by simp) _ _ hk
    ·exact h1.2 d (by simp [hd])
   ·rcases List.mem_cons.1 hd with rfl|hd
    ·exact Hp.sub_un_l _ _
    ·exact Hp.sub_trans (h2.2 d hd) (Hp.sub_un_r hcd)
theorem On.upd {h:Hp} {c:Hp} {l:List Hp} (o:On h (c::l)) {b:Nat} {ob:Obj} (hb:c b=some ob) (o':Obj):On (h.upd b o') (c.upd b o'::l):=by
 have hd:∀ d∈l,d b=none:=fun d hd=>by
  rcases o.apart hd b with e|e
  ·rw [hb] at e; cases e
  ·exact e
 refine ⟨List.pairwise_cons.2 ⟨fun d hd'=>Hp.upd_dj (o.apart hd') (hd d hd') o',o.tail.1⟩,fun d hm=>?_⟩
 rcases List.mem_cons.1 hm with rfl|hl
 ·intro k ob hk
  unfold Hp.upd at hk ⊢
  split at hk
  ·rename_i e; rw [if_pos e]; exact hk
  ·rename_i e; rw [if_neg e]; exact o.2 c (by simp) _ _ hk
 ·intro k ob hk
  unfold Hp.upd
  by_cases e:k=b
  ·subst e; rw [hd d hl] at hk; cases hk
  ·rw [if_neg e]; exact o.2 d (by simp [hl]) _ _ hk
theorem On.new {h:Hp} {l:List Hp} (o:On h l) {b:Nat} (hb:h b=none) (ob:Obj):On (h.upd b ob) (Hp.one b ob::l):=by
 have hd:∀ d∈l,d b=none:=fun d hd=>by
  cases e:d b with
  | none=>rfl
  | some x=>rw [o.2 d hd _ _ e] at hb; cases hb
 refine ⟨List.pairwise_cons.2 ⟨fun d hd' k=>?_,o.1⟩,fun d hd'=>?_⟩
 ·by_cases e:k=b
  ·subst e; exact .inr (hd d hd')
  ·left; simp [Hp.one,e]
 ·rcases List.mem_cons.1 hd' with rfl|hd'
  ·intro k ob' hk
   unfold Hp.one at hk
   split at hk
   ·rename_i e; subst e; simpa [Hp.upd] using hk
   ·cases hk
  ·exact Hp.sub_trans (o.2 d hd') (Hp.sub_upd hb ob)
def ob (b:Nat) (vs:List Value) (e:TypeId):Hp:=Hp.one b (.cells vs.toArray e (0,0))
theorem ZJR (b:Nat) (vs:List Value) (e:TypeId):ob b vs e b=some (.cells vs.toArray e (0,0)):=by simp [ob,Hp.one]
theorem ZWL (b:Nat) (vs:List Value) (e:TypeId) (i:Nat):(ob b vs e).cell? ⟨b,i,none⟩=vs[i]?:=by simp [Hp.cell?,ZJR]
theorem ZHI (b:Nat) (o o':Obj):(Hp.one b o).upd b o'=Hp.one b o':=by
 funext k; unfold Hp.one Hp.upd; by_cases e:k=b<;>simp [e]
theorem ZCO (b i n:Nat):(⟨b,i,none⟩:Addr).add n=⟨b,i+n,none⟩:=by
 unfold Addr.add; by_cases h:n=0<;>simp [h]
theorem ZA7 {a:Addr} (ha:a.spot=none) (n:Nat):a.add n=⟨a.block,a.off+n,none⟩:=by
 obtain ⟨b,i,s⟩:=a; cases ha; exact ZCO b i n
@[simp] theorem ZXq (a:Addr):a.add 0=a:=rfl
theorem ZCC {b:Nat} {vs:List Value} {e:TypeId} {i:Nat} {cs:List Value} (hc:(vs.drop i).take cs.length=cs):(ob b vs e).rds ⟨b,i,none⟩ cs:=by
 intro j v hj
 rw [ZCO,ZWL]
 have hlt:j<cs.length:=by
  rcases Nat.lt_or_ge j cs.length with h|h
  ·exact h
  ·rw [List.getElem?_eq_none h] at hj; cases hj
 rw [←hc,List.getElem?_take_of_lt hlt,List.getElem?_drop] at hj
 exact hj
theorem ZJ {h:Hp} {l:List Hp} (o:On h l) (k:Nat) {b:Nat} {vs:List Value} {e:TypeId} (hk:l[k]?=some (ob b vs e)) {cd:Cdc} {i:Nat} {x:cd.T} {K:cd.T→Prop}
 (hx:(vs.drop i).take (cd.enc x).cells.toList.length=(cd.enc x).cells.toList) (h2:K x):ZC cd ⟨b,i,none⟩ h K:=
 ⟨x,Hp.sub_rds (o.get hk) (ZCC hx),h2⟩
theorem ZI1 {c:Hp} {b i:Nat} {cs:List Value} {e:TypeId} {fz:Nat×Nat} (hb:c b=some (.cells cs.toArray e fz)) (v:Value):
 c.setCell ⟨b,i,none⟩ v=c.upd b (.cells (cs.set i v).toArray e fz):=by
 funext k
 unfold Hp.setCell Hp.upd
 by_cases hk:k=b
 ·subst hk; simp [hb,ZM9]
 ·simp [hk]
theorem upd_upd (c:Hp) (b:Nat) (o o':Obj):(c.upd b o).upd b o'=c.upd b o':=by
 funext k; unfold Hp.upd; by_cases e:k=b<;>simp [e]
theorem ZTX (cs:List Value) (i:Nat):ZEj cs i []=cs:=by simp [ZEj]
theorem ZUX (cs:List Value) (i:Nat) (v:Value) (l:List Value) (hi:i+(l.length+1)≤cs.length):ZEj (cs.set i v) (i+1) l=ZEj cs i (v::l):=by
 unfold ZEj
 rw [List.take_set,List.drop_set_of_lt (by omega)]
 rw [List.take_succ_eq_append_getElem (by omega),List.set_append_right _ _ (by simp; omega)]
 simp only [List.length_take,Nat.min_eq_left (show i≤cs.length by omega),Nat.sub_self,List.set_cons_zero,List.append_assoc,List.cons_append,List.nil_append,List.length_cons]
 rw [show i+1+l.length=i+(l.length+1) by omega]
theorem ZSl {b:Nat} {e:TypeId} {fz:Nat×Nat}:∀ (vs:List Value) (c:Hp) (i j:Nat) (cs:List Value),c b=some (.cells cs.toArray e fz)→i+j+vs.length≤cs.length→
 c.wrs ⟨b,i,none⟩ j vs=c.upd b (.cells (ZEj cs (i+j) vs).toArray e fz):=by
 intro vs
 induction vs with
 | nil=>
   intro c i j cs hb _
   rw [ZTX]
   funext k
   unfold Hp.wrs Hp.upd
   by_cases hk:k=b
   ·subst hk; rw [if_pos rfl,hb]
   ·rw [if_neg hk]
 | cons v l ih=>
   intro c i j cs hb hl
   simp only [List.length_cons] at hl
   show (c.setCell ((⟨b,i,none⟩:Addr).add j) v).wrs ⟨b,i,none⟩ (j+1) l=_
   rw [ZCO,ZI1 hb]
   rw [ih _ i (j+1) (cs.set (i+j) v) (by simp [Hp.upd]) (by simp; omega),upd_upd,show i+(j+1)=i+j+1 by omega,ZUX cs (i+j) v l (by omega)]
theorem ZBB {c:Hp} {b i n:Nat} {cs:List Value} {e:TypeId} {fz:Nat×Nat} (hb:c b=some (.cells cs.toArray e fz)) (hl:i+n≤cs.length) (hf:∀ k,i≤k→k<i+n→¬(fz.1≤k∧k<fz.2)):
 c.may ⟨b,i,none⟩ n:=by
 intro k hk
 rw [ZCO]
 obtain ⟨lo,hi⟩:=fz
 have hlt:i+k<cs.length:=by omega
 have hf:=hf (i+k) (by omega) (by omega)
 refine ⟨⟨cs[i+k],by simp [Hp.cell?,hb,hlt]⟩,?_⟩
 simp only [Hp.frozen?,hb]
 simpa using hf
theorem Hp.sub_may {c h:Hp} (s:c.sub h) {a:Addr} {n:Nat} (m:c.may a n):h.may a n:=by
 intro i hi
 obtain ⟨⟨v,hv⟩,hf⟩:=m i hi
 refine ⟨⟨v,Hp.sub_cell s hv⟩,?_⟩
 unfold Hp.cell? at hv
 unfold Hp.frozen? at hf ⊢
 cases hb:c (a.add i).block with
 | none=>rw [hb] at hv; cases hv
 | some o=>rw [hb] at hf; rw [s _ _ hb]; exact hf
theorem On.wrs {h:Hp} {c:Hp} {l:List Hp} (o:On h (c::l)) {b i:Nat} {cs:List Value} {e:TypeId} {fz:Nat×Nat} (hb:c b=some (.cells cs.toArray e fz)) {vs:List Value} (hl:i+vs.length≤cs.length):
 On (h.wrs ⟨b,i,none⟩ 0 vs) (c.upd b (.cells (ZEj cs i vs).toArray e fz)::l):=by
 rw [ZSl vs h i 0 cs (o.2 c (by simp) _ _ hb) (by omega),Nat.add_zero]
 exact o.upd hb _
theorem ZZ {h:Hp} {l:List Hp} {b:Nat} {vs:List Value} {e:TypeId} (o:On h (ob b vs e::l)) {cd:Cdc} {i:Nat} {x:cd.T} {K:Hp→Prop} {vs':List Value} (hm:cd.mem=true)
 (hv:ZEj vs i (cd.enc x).cells.toList=vs') (hl:i+cd.n≤vs.length) (h2:∀ h',On h' (ob b vs' e::l)→K h'):ZU cd ⟨b,i,none⟩ x h K:=by
 have hn:=(ZAV hm x).1
 refine ⟨Hp.sub_may (o.2 _ (by simp)) (ZBB (ZJR b vs e) hl (by omega)),h2 _ ?_⟩
 have:=o.wrs (ZJR b vs e) (i:=i) (vs:=(cd.enc x).cells.toList) (by simpa [hn] using hl)
 rw [hv] at this
 unfold ob at this ⊢
 rw [ZHI] at this
 exact this
theorem ZI {h:Hp} {l:List Hp} (o:On h l) {vs:List Value} {e:TypeId} {K:Nat→Hp→Prop} (h2:∀ b h',On h' (ob b vs e::l)→K b h'):ZL (.cells vs.toArray e (0,0)) h K:=
 fun b hb=>h2 b _ (o.new hb _)
def Row (cd:Cdc) (g:Hp) (s:Sl) (xs:List cd.T):Prop:=
 s.len=xs.length∧match s.a with
  | none=>xs=[]
  | some a=>g.rds a (ZG cd xs)
def Own (cd:Cdc) (c:Hp) (s:Sl) (xs:List cd.T):Prop:=
 s.len=xs.length∧match s.a with
  | none=>s.cap=0∧xs=[]
  | some a=>a.spot=none∧∃ pre rest ZBf e fz,c a.block=some (.cells (pre++(ZG cd xs++(rest++ZBf))).toArray e fz)∧pre.length=a.off∧
     xs.length*cd.n+rest.length=s.cap*cd.n∧∀ k,a.off≤k→k<a.off+s.cap*cd.n→¬(fz.1≤k∧k<fz.2)
variable {cd:Cdc} {g h c:Hp} {s t:Sl} {xs ys:List cd.T} {l:List Hp}
theorem Row.sub (r:Row cd g s xs) (hs:g.sub h):Row cd h s xs:=by
 refine ⟨r.1,?_⟩
 have:=r.2
 split at this
 ·exact this
 ·exact Hp.sub_rds hs this
theorem Row.nil (g:Hp):Row cd g ⟨none,0,0⟩ []:=⟨rfl,rfl⟩
theorem Own.nil (g:Hp):Own cd g ⟨none,0,0⟩ []:=⟨rfl,rfl,rfl⟩
theorem ZKx {c:Hp} {b i:Nat} {cs:List Value} {e:TypeId} {fz:Nat×Nat} (hb:c b=some (.cells cs.toArray e fz)) {vs:List Value} (hv:(cs.drop i).take vs.length=vs):c.rds ⟨b,i,none⟩ vs:=by
 intro j v hj
 rw [ZCO]
 have hlt:j<vs.length:=by
  rcases Nat.lt_or_ge j vs.length with h|h
  ·exact h
  ·rw [List.getElem?_eq_none h] at hj; cases hj
 rw [←hv,List.getElem?_take_of_lt hlt,List.getElem?_drop] at hj
 simp [Hp.cell?,hb,hj]
theorem ZTh {a:Addr} (ha:a.spot=none):a=⟨a.block,a.off,none⟩:=by obtain ⟨b,i,s⟩:=a; cases ha; rfl
theorem Own.row (r:Own cd g s xs):Row cd g s xs:=by
 refine ⟨r.1,?_⟩
 have:=r.2
 split at this
 ·exact this.2
 ·obtain ⟨h1,pre,rest,ZBf,e,fz,hb,h2,h3,_⟩:=this
  rename_i a ha
  rw [ZTh h1]
  refine ZKx hb ?_
  rw [←h2,List.drop_append_of_le_length (Nat.le_refl _),List.drop_length,List.nil_append,List.take_append_of_le_length (Nat.le_refl _),List.take_length]
theorem ZAm (cd:Cdc) (x:cd.T) (xs:List cd.T):ZG cd (x::xs)=(cd.enc x).cells.toList++ZG cd xs:=rfl
theorem Zl (cd:Cdc) (xs ys:List cd.T):ZG cd (xs++ys)=ZG cd xs++ZG cd ys:=by simp [ZG]
theorem ZEv (hm:cd.mem=true):∀ (xs:List cd.T) (i:Nat) (x:cd.T),xs[i]?=some x→((ZG cd xs).drop (i*cd.n)).take cd.n=(cd.enc x).cells.toList:=by
 intro xs
 induction xs with
 | nil=>intro i x h; cases h
 | cons y xs ih=>
   intro i x h
   have hy:((cd.enc y).cells.toList).length=cd.n:=by simpa using (ZAV hm y).1
   cases i with
   | zero=>
     simp only [List.getElem?_cons_zero,Option.some.injEq] at h
     subst h
     rw [Nat.zero_mul,List.drop_zero,ZAm,List.take_append_of_le_length (by omega),←hy,List.take_length]
   | succ i=>
     simp only [List.getElem?_cons_succ] at h
     rw [ZAm,Nat.add_mul,Nat.one_mul,Nat.add_comm,←List.drop_drop,←hy,List.drop_append_of_le_length (Nat.le_refl _),List.drop_length,List.nil_append,hy]
     exact ih i x h
theorem Hp.rds_add {g:Hp} {a:Addr} {cs:List Value} (r:g.rds a cs) (k:Nat) {vs:List Value} (hv:(cs.drop k).take vs.length=vs):g.rds (a.add k) vs:=by
 intro j v hj
 have hlt:j<vs.length:=by
  rcases Nat.lt_or_ge j vs.length with h|h
  ·exact h
  ·rw [List.getElem?_eq_none h] at hj; cases hj
 rw [←hv,List.getElem?_take_of_lt hlt,List.getElem?_drop] at hj
 have:=r (k+j) v hj
 rw [show (a.add k).add j=a.add (k+j) by
  obtain ⟨b,i,sp⟩:=a
  unfold Addr.add
  by_cases h1:k=0<;>by_cases h2:j=0<;>simp [h1,h2,Nat.add_assoc]]
 exact this
theorem ZM (r:Row cd g s xs) {i:Int} (h0:0≤i) (h1:i<xs.length) {K:Addr→Prop} (h2:∀ a,s.a=some a→K a):Zi s.a s.len i K:=by
 refine ⟨h0,by rw [r.1]; exact h1,?_⟩
 cases ha:s.a with
 | none=>have:=r.2; rw [ha] at this; subst this; simp at h1; omega
 | some a=>exact h2 a ha
theorem ZO (r:Row cd g s xs) (hs:g.sub h) (hm:cd.mem=true) {a:Addr} (ha:s.a=some a) {i:Nat} {x:cd.T} (hx:xs[i]?=some x) {m:Nat} (hn:i*cd.n=m) {K:cd.T→Prop} (h2:K x):ZC cd (a.add m) h K:=by
 refine ⟨x,?_,h2⟩
 have hr:=r.2
 rw [ha] at hr
 subst hn
 have hl:((cd.enc x).cells.toList).length=cd.n:=by simpa using (ZAV hm x).1
 exact Hp.sub_rds hs (Hp.rds_add hr _ (by rw [hl]; exact ZEv hm xs i x hx))
theorem ZCk (r:Row cd g s xs) (hs:g.sub h) {K:List cd.T→Prop} (h2:K xs):ZB6 cd s.a s.len h K:=by
 have hr:=r.2
 unfold ZB6
 split at hr
 ·rename_i ha; rw [ha]; subst hr; exact ⟨r.1,h2⟩
 ·rename_i a ha; rw [ha]; exact ⟨xs,r.1.symm,Hp.sub_rds hs hr,h2⟩
theorem ZJr (xs:List Int):ZDj xs=ZG (cI .u8) xs:=by
 induction xs with
 | nil=>rfl
 | cons x xs ih=>
   show Value.int .u8 x::ZDj xs=Value.int .u8 x::ZG (cI .u8) xs
   rw [ih]
theorem ZQy {xs:List Int} (r:Row (cI .u8) g s xs) (hs:g.sub h) {K:ByteArray→Prop} (h2:K (ZJQ xs)):ZXM s.a s.len h K:=by
 have hr:=r.2
 unfold ZXM
 split at hr
 ·rename_i ha; rw [ha]
  have:xs=[]:=hr
  subst this; exact h2
 ·rename_i a ha; rw [ha]; exact ⟨xs,r.1.symm,by rw [ZJr]; exact Hp.sub_rds hs hr,h2⟩
theorem Row.cut (r:Row cd g s xs) {k m:Nat} (hkm:k≤m) (hml:m≤xs.length) {cap':Nat} (hc:xs.length≤s.cap) (hm:cd.mem=true) {z:Nat} (hz:z=cd.n):
 Row cd g ⟨Zj s.a k s.cap z,m-k,cap'⟩ ((xs.drop k).take (m-k)):=by
 subst hz
 refine ⟨by simp; omega,?_⟩
 have hr:=r.2
 show match Zj s.a k s.cap cd.n with
  | none=>_
  | some a=>_
 cases ha:s.a with
 | none=>
   rw [ha] at hr
   have:xs=[]:=hr
   subst this
   have:Zj none k s.cap cd.n=none:=by unfold Zj; split<;>rfl
   rw [this]
   simp
 | some a=>
   rw [ha] at hr
   have key:g.rds (a.add (k*cd.n)) (ZG cd ((xs.drop k).take (m-k))):=by
    refine Hp.rds_add hr _ ?_
    have e:ZG cd xs=ZG cd (xs.take k)++(ZG cd ((xs.drop k).take (m-k))++ZG cd ((xs.drop k).drop (m-k))):=by
     rw [←Zl,←Zl,List.take_append_drop,List.take_append_drop]
    have hlen:(ZG cd (xs.take k)).length=k*cd.n:=by
     rw [Ze hm,List.length_take,Nat.min_eq_left (by omega)]
    rw [e,←hlen,List.drop_append_of_le_length (Nat.le_refl _),List.drop_length,List.nil_append,List.take_append_of_le_length (Nat.le_refl _),List.take_length]
   unfold Zj
   by_cases hk:s.cap=k
   ·rw [if_pos hk]
    have:m-k=0:=by omega
    rw [this]
    intro i v hv
    simp [ZG] at hv
   ·rw [if_neg hk]
    exact key
theorem ZBG {b:Nat} {e:TypeId} {n cap:Nat} {vs rest:List Value} (hv:vs=ZG cd xs++rest) (hn:n=xs.length) (hc:xs.length*cd.n+rest.length=cap*cd.n):Own cd (ob b vs e) ⟨some ⟨b,0,none⟩,n,cap⟩ xs:=by
 refine ⟨hn,rfl,[],rest,[],e,(0,0),?_,rfl,hc,?_⟩
 ·simp [ZJR,hv]
 ·intro k h1 h2; simp
theorem Zf {b:Nat} {e:TypeId} {n cap:Nat} {vs:List Value} (hv:vs=ZG cd xs) (hn:n=xs.length):Row cd (ob b vs e) ⟨some ⟨b,0,none⟩,n,cap⟩ xs:=by
 refine ⟨hn,?_⟩
 subst hv
 exact ZKx (ZJR b _ e) (by simp)
theorem ZV {e:TypeId} {bytes:Nat} (o:On h (c::l)) (hm:cd.mem=true) (w:Own cd c s xs) (hn:0<cd.n) (hy:Row cd g t ys) (hg:g.sub h) (room:(xs.length+ys.length)*bytes≤ZAI)
 {K:Option Addr→Nat→Nat→Hp→Prop} (hK:∀ (c':Hp) (p:Option Addr) (n m:Nat) (h':Hp),On h' (c'::l)→Own cd c' ⟨p,n,m⟩ (xs++ys)→K p n m h'):
 ZY cd e bytes s.a s.len s.cap t.a t.len h K:=by
 unfold ZY
 refine ZCk hy hg ?_
 have hx1:=w.1
 have hy1:=hy.1
 refine ⟨fun hle=>?_,fun hlt=>?_⟩
 ·have hr:=w.2
  cases ha:s.a with
  | none=>
    rw [ha] at hr
    obtain ⟨h1,h2⟩:=hr
    dsimp only
    have:ys=[]:=by
     cases ys with
     | nil=>rfl
     | cons y ys=>rw [h2] at hx1; simp at hx1 hy1; omega
    subst this
    refine hK c none _ _ h o ?_
    rw [List.append_nil]
    exact ⟨by rw [hx1,hy1]; simp,h1,h2⟩
  | some a=>
    rw [ha] at hr
    obtain ⟨hsp,pre,rest,ZBf,e',fz,hb,hpre,hroom,hfz⟩:=hr
    dsimp only
    have hyl:(ZG cd ys).length=ys.length*cd.n:=Ze hm ys
    have hxl:(ZG cd xs).length=xs.length*cd.n:=Ze hm xs
    have hfit:ys.length*cd.n≤rest.length:=by
     have:(xs.length+ys.length)*cd.n≤s.cap*cd.n:=Nat.mul_le_mul_right _ (by omega)
     rw [Nat.add_mul] at this
     omega
    have hmul:(s.len+t.len)*cd.n≤s.cap*cd.n:=Nat.mul_le_mul_right _ hle
    have hadd:a.add (s.len*cd.n)=⟨a.block,a.off+s.len*cd.n,none⟩:=ZA7 hsp _
    have hlen:a.off+s.len*cd.n+t.len*cd.n≤(pre++(ZG cd xs++(rest++ZBf))).length:=by
     simp only [List.length_append,hpre,hxl,hx1,hy1]; omega
    rw [hadd]
    refine ⟨Hp.sub_may (o.2 c (by simp)) (ZBB hb hlen fun k h1 h2=>hfz k (by omega) ?_),?_⟩
    ·rw [Nat.add_mul] at hmul; omega
    ·have o':=o.wrs hb (i:=a.off+s.len*cd.n) (vs:=ZG cd ys) (by rw [hyl,←hy1]; exact hlen)
     refine hK _ (some a) _ _ _ o' ?_
     have hset:ZEj (pre++(ZG cd xs++(rest++ZBf))) (a.off+s.len*cd.n) (ZG cd ys)=pre++(ZG cd (xs++ys)++(rest.drop (ys.length*cd.n)++ZBf)):=by
         have hp:(pre++ZG cd xs).length=a.off+s.len*cd.n:=by simp [hpre,hxl,hx1]
         unfold ZEj
         rw [←List.append_assoc pre,←hp,List.take_append_of_le_length (Nat.le_refl _),List.take_length,←List.drop_drop,List.drop_append_of_le_length (Nat.le_refl _),List.drop_length,List.nil_append,hyl,
          List.drop_append_of_le_length hfit,Zl]
         simp [List.append_assoc]
     rw [hset]
     refine ⟨by rw [hx1,hy1]; simp,hsp,pre,rest.drop (ys.length*cd.n),ZBf,e',fz,by simp [Hp.upd],hpre,?_,hfz⟩
     simp only [List.length_append,List.length_drop,Nat.add_mul]
     omega
 ·refine ⟨by rw [hx1,hy1]; exact room,ZCk w.row (o.2 c (by simp)) ?_⟩
  intro nc pad hnc hpad b hbn
  have o':=o.tail.new hbn (.cells (ZG cd xs++(ZG cd ys++pad)).toArray e (0,0))
  refine hK _ (some ⟨b,0,none⟩) _ _ _ o' ?_
  refine ZBG (rest:=pad) (by rw [Zl,List.append_assoc]) (by rw [hx1,hy1]; simp) ?_
  rw [hpad,←Nat.add_mul]
  congr 1
  rw [hx1,hy1] at hnc ⊢
  simp; omega
open Go.RowKit Go.ChangeShapes Go.WideShapes
def Opn (P:Program) (W:World) (t:TypeId) (cs:List Value):Prop:=
 ∃ (H:Type) (enc:TypeId×Value→H) (base:Nat) (spare:Nat→Bool) (held:Bool) (fuel:Nat) (y:DataW H×List MemPlace),DataW.trod enc P W base spare held fuel t cs=some y∧∀ n∈y.1.weights P t,n≤reachBytes
def ZUb (P:Program) (rec:TypeId→Option (List (Lk×TypeId))):List Field→Nat→Option (List (Lk×TypeId))
 | [],_=>some []
 | f::fs,off=>bif Nat.beq f.offset off then
    match rec f.type with
    | some l=>bif Nat.beq l.length (P.cellsOf f.type) then
       match ZUb P rec fs (off+l.length) with
       | some r=>some (l++r)
       | none=>none
      else none
    | none=>none
   else none
def ZWe (P:Program):Nat→TypeId→Option (List (Lk×TypeId))
 | 0,_=>none
 | d+1,t=>match P.underlying t with
   | some (.int k)=>some [(.i k,t)]
   | some .bool=>some [(.b,t)]
   | some .string=>some [(.s,t)]
   | some (.slice _)=>some [(.sl,t)]
   | some (.struct fs)=>match ZUb P (ZWe P d) fs.toList 0 with
     | some l=>bif Nat.beq l.length (P.cellsOf t) then some l else none
     | none=>none
   | some (.array n e)=>match ZWe P d e with
     | some l=>bif Nat.beq l.length (P.cellsOf e)&&Nat.beq (n*l.length) (P.cellsOf t) then some (List.replicate n l).flatten else none
     | none=>none
   | _=>none
def ZND (P:Program) (W:World):Lk→TypeId→Value→Prop
 | .i k,_,v=>∃ n,v=.int k n∧(Lit.int k n).wf=true
 | .b,_,v=>∃ b,v=.bool b
 | .s,_,v=>∃ s,v=.string s∧s.size≤maxLen
 | .sl,t,v=>(∃ a l c,v=.slice a l c)∧Opn P W t [v]
 | _,_,_=>False
def ZSA (P:Program) (W:World):(lk:Lk)→TypeId→lk.T→Prop
 | .i k,_,n=>(Lit.int k n).wf=true
 | .s,_,s=>s.size≤maxLen
 | .sl,t,s=>Opn P W t [.slice s.a s.len s.cap]
 | _,_,_=>True
def okL (P:Program) (W:World):(ls:List (Lk×TypeId))→LT (ls.map (·.1))→Prop
 | [],_=>True
 | [a],x=>ZSA P W a.1 a.2 x
 | a::b::l,x=>ZSA P W a.1 a.2 x.1∧okL P W (b::l) x.2
theorem ZTk {P:Program} {W:World}:∀ (lk:Lk) (t:TypeId) (v:Value),ZND P W lk t v→∃ x:lk.T,v=lk.enc x∧ZSA P W lk t x:=by
 intro lk t v h
 cases lk with
 | i k=>obtain ⟨n,rfl,h⟩:=h; exact ⟨n,rfl,h⟩
 | b=>obtain ⟨b,rfl⟩:=h; exact ⟨b,rfl,trivial⟩
 | s=>obtain ⟨s,rfl,h⟩:=h; exact ⟨s,rfl,h⟩
 | p=>exact h.elim
 | sl=>obtain ⟨⟨a,l,c,rfl⟩,h⟩:=h; exact ⟨⟨a,l,c⟩,rfl,h⟩
 | c=>exact h.elim
theorem ZPH {P:Program} {W:World}:∀ (ls:List (Lk×TypeId)) (cs:List Value),cs.length=ls.length→(∀ (i:Nat) (lt:Lk×TypeId) (v:Value),ls[i]?=some lt→cs[i]?=some v→ZND P W lt.1 lt.2 v)→
 ∃ x:LT (ls.map (·.1)),cs=ZJk (ls.map (·.1)) x∧okL P W ls x:=by
 intro ls
 induction ls with
 | nil=>intro cs hl _; rw [List.length_nil,List.length_eq_zero_iff] at hl; subst hl; exact ⟨(),rfl,trivial⟩
 | cons a ls ih=>
   intro cs hl hk
   cases cs with
   | nil=>simp at hl
   | cons v cs=>
     obtain ⟨x,hx,ok⟩:=ZTk a.1 a.2 v (hk 0 a v rfl rfl)
     obtain ⟨y,hy,oy⟩:=ih cs (by simpa using hl) fun i lt u h1 h2=>hk (i+1) lt u (by simpa using h1) (by simpa using h2)
     cases ls with
     | nil=>
       refine ⟨x,?_,ok⟩
       have:cs=[]:=by simpa using hl
       subst this
       rw [hx]; rfl
     | cons b ls=>exact ⟨(x,y),by rw [hx,hy]; rfl,ok,oy⟩
section
variable {H:Type} {enc:TypeId×Value→H} {P:Program} {W:World} {base:Nat} {spare:Nat→Bool} {held:Bool}
theorem ZCd {e:TypeId}:∀ {ds:List (DataW H)} {d:DataW H},d∈ds→∀ n∈d.weights P e,n∈DataW.weightsAll P e ds
 | d0::ds,d,hd,n,hn=>by
   simp only [DataW.weightsAll,List.mem_append]
   rcases List.mem_cons.1 hd with rfl|hd
   ·exact .inl hn
   ·exact .inr (ZCd hd n hn)
theorem ZH6 {e t:TypeId} {fuel:Nat} {cs:List Value} {y:DataW H×List MemPlace} (ht:P.underlying t=some (.slice e)) (h:DataW.trod enc P W base spare held fuel t cs=some y):
 ∃ a l c,cs=[.slice a l c]:=by
 rcases DataW.trod_slice ht h with ⟨h0,_⟩|⟨a,len,cap,_,_,_,_,rfl,_⟩
 ·exact ⟨_,_,_,h0⟩
 ·exact ⟨_,_,_,rfl⟩
theorem ZMX:∀ (d:Nat) (t:TypeId) (ls:List (Lk×TypeId)) (fuel:Nat) (cs:List Value) (y:DataW H×List MemPlace),ZWe P d t=some ls→DataW.trod enc P W base spare held fuel t cs=some y→(∀ n∈y.1.weights P t,n≤reachBytes)→
 cs.length=ls.length∧∀ (i:Nat) (lt:Lk×TypeId) (v:Value),ls[i]?=some lt→cs[i]?=some v→ZND P W lt.1 lt.2 v:=by
 intro d
 induction d with
 | zero=>intro t ls fuel cs y h; cases h
 | succ d ih=>
   intro t ls fuel cs y hf h hwt
   unfold ZWe at hf
   split at hf
   ·rename_i k hu
    cases hf
    obtain ⟨n,rfl,_,hw⟩:=DataW.trod_int hu h
    refine ⟨rfl,fun i lt v h1 h2=>?_⟩
    cases i with
    | zero=>cases h1; cases h2; exact ⟨n,rfl,hw⟩
    | succ i=>cases h1
   ·rename_i hu
    cases hf
    obtain ⟨b,rfl,_⟩:=DataW.trod_bool hu h
    refine ⟨rfl,fun i lt v h1 h2=>?_⟩
    cases i with
    | zero=>cases h1; cases h2; exact ⟨b,rfl⟩
    | succ i=>cases h1
   ·rename_i hu
    cases hf
    obtain ⟨s,rfl,_,hs⟩:=DataW.trod_string hu h
    refine ⟨rfl,fun i lt v h1 h2=>?_⟩
    cases i with
    | zero=>cases h1; cases h2; exact ⟨s,rfl,hs⟩
    | succ i=>cases h1
   ·rename_i e hu
    cases hf
    obtain ⟨a,l,c,rfl⟩:=ZH6 hu h
    refine ⟨rfl,fun i lt v h1 h2=>?_⟩
    cases i with
    | zero=>cases h1; cases h2; exact ⟨⟨a,l,c,rfl⟩,⟨H,enc,base,spare,held,fuel,y,h,hwt⟩⟩
    | succ i=>cases h1
   ·rename_i fs hu
    split at hf
    ·rename_i l hl
     cases hb:Nat.beq l.length (P.cellsOf t) with
     | false=>rw [hb] at hf; cases hf
     | true=>
       rw [hb] at hf
       cases hf
       obtain ⟨xs,n,_,hy,hlen,hxl,hfield⟩:=DataW.trod_struct hu h
       subst hy
       refine ⟨by rw [hlen]; exact (Nat.eq_of_beq_eq_true hb).symm,?_⟩
       have hall:∀ f∈fs.toList,∃ z,DataW.trod enc P W base spare held n f.type ((cs.drop f.offset).take (P.cellsOf f.type))=some z∧∀ m∈z.1.weights P f.type,m≤reachBytes:=by
         intro f hf
         obtain ⟨i,hi⟩:=List.getElem?_of_mem hf
         have hi':fs[i]?=some f:=by simpa using hi
         have hlt:i<xs.length:=by rw [hxl]; exact (Array.getElem?_eq_some_iff.1 hi').1
         refine ⟨xs[i],by rw [hfield i f hi']; simp [hlt],fun m hm=>hwt m ?_⟩
         simp only [DataW.weights,hu]
         exact DataW.weights_mem_each (j:=i) (t:=f.type) (d:=xs[i].1) (by simp [hi]) (by simp [hlt]) m hm
       have key:∀ (fl:List Field) (off:Nat) (r:List (Lk×TypeId)),ZUb P (ZWe P d) fl off=some r→(∀ f∈fl,∃ z,DataW.trod enc P W base spare held n f.type ((cs.drop f.offset).take (P.cellsOf f.type))=some z∧∀ m∈z.1.weights P f.type,m≤reachBytes)→
          ∀ (i:Nat) (lt:Lk×TypeId) (v:Value),r[i]?=some lt→cs[off+i]?=some v→ZND P W lt.1 lt.2 v:=by
         intro fl
         induction fl with
         | nil=>intro off r hr _ i lt v h1; cases hr; cases h1
         | cons f fl ihf=>
           intro off r hr hz i lt v h1 h2
           unfold ZUb at hr
           cases hb1:Nat.beq f.offset off with
           | false=>rw [hb1] at hr; cases hr
           | true=>
             rw [hb1] at hr
             have e1:=Nat.eq_of_beq_eq_true hb1
             simp only [cond_true] at hr
             split at hr
             ·rename_i l' hl'
              cases hb2:Nat.beq l'.length (P.cellsOf f.type) with
              | false=>rw [hb2] at hr; cases hr
              | true=>
                rw [hb2] at hr
                have e2:=Nat.eq_of_beq_eq_true hb2
                simp only [cond_true] at hr
                split at hr
                ·rename_i r' hr'
                 cases hr
                 obtain ⟨z,hz0,hzw⟩:=hz f (by simp)
                 obtain ⟨_,hleaf⟩:=ih f.type l' n _ z hl' hz0 hzw
                 by_cases hi:i<l'.length
                 ·rw [List.getElem?_append_left hi] at h1
                  refine hleaf i lt v h1 ?_
                  rw [List.getElem?_take_of_lt (by omega),List.getElem?_drop,e1]
                  exact h2
                 ·rw [List.getElem?_append_right (by omega)] at h1
                  exact ihf _ _ hr' (fun g hg=>hz g (by simp [hg])) (i-l'.length) lt v h1 (by rw [show off+l'.length+(i-l'.length)=off+i by omega]; exact h2)
                ·cases hr
             ·cases hr
       intro i lt v h1 h2
       exact key _ 0 _ hl hall i lt v h1 (by rw [Nat.zero_add]; exact h2)
    ·cases hf
   ·rename_i n e hu
    split at hf
    ·rename_i l hl
     cases hb:(Nat.beq l.length (P.cellsOf e)&&Nat.beq (n*l.length) (P.cellsOf t)) with
     | false=>rw [hb] at hf; cases hf
     | true=>
       rw [hb] at hf
       cases hf
       rw [Bool.and_eq_true] at hb
       have e1:=Nat.eq_of_beq_eq_true hb.1
       have e2:=Nat.eq_of_beq_eq_true hb.2
       obtain ⟨xs,m,_,hy,hlen,hxl,hget⟩:=DataW.trod_array hu h
       subst hy
       have hall:∀ i,i<n→∃ z,DataW.trod enc P W base spare held m e ((cs.drop (i*P.cellsOf e)).take (P.cellsOf e))=some z∧∀ k∈z.1.weights P e,k≤reachBytes:=fun i hi=>
         ⟨xs[i],by rw [hget i hi]; exact List.getElem?_eq_getElem (by omega),fun k hk=>hwt k (by
           simp only [DataW.weights,hu]
           exact ZCd (List.mem_map.2 ⟨xs[i],List.getElem_mem _,rfl⟩) k hk)⟩
       have flen:∀ n:Nat,((List.replicate n l).flatten).length=n*l.length:=by intro n; simp
       refine ⟨by rw [hlen,flen,e2],?_⟩
       intro i lt v h1 h2
       have hi:i<n*l.length:=by
         rcases Nat.lt_or_ge i (n*l.length) with h|h
         ·exact h
         ·rw [List.getElem?_eq_none (by rw [flen]; exact h)] at h1; cases h1
       have hpos:0<l.length:=Nat.pos_of_ne_zero (by intro h0; rw [h0] at hi; omega)
       have get:∀ (n i:Nat),i<n*l.length→((List.replicate n l).flatten)[i]?=l[i % l.length]?:=by
         intro n
         induction n with
         | zero=>intro i hi; omega
         | succ n ihn=>
           intro i hi
           show (l++(List.replicate n l).flatten)[i]?=_
           rw [Nat.add_mul,Nat.one_mul] at hi
           by_cases h:i<l.length
           ·rw [List.getElem?_append_left h,Nat.mod_eq_of_lt h]
           ·rw [List.getElem?_append_right (by omega),ihn (i-l.length) (by omega),←Nat.mod_eq_sub_mod (by omega)]
       rw [get n i hi] at h1
       obtain ⟨z,hz,hzw⟩:=hall (i / l.length) ((Nat.div_lt_iff_lt_mul hpos).2 hi)
       obtain ⟨_,hleaf⟩:=ih e l m _ z hl hz hzw
       refine hleaf (i % l.length) lt v h1 ?_
       rw [←e1,List.getElem?_take_of_lt (Nat.mod_lt _ hpos),List.getElem?_drop,Nat.mul_comm,Nat.div_add_mod]
       exact h2
    ·cases hf
   ·cases hf
end
def ZJj (W:World):Hp:=fun b=>W.heap[b]?
theorem ZWW (W:World):(ZJj W).le W:=fun _ _ h=>h
theorem ZFH {P:Program} {W:World} {d:Nat} {t:TypeId} {cs:List Value} {ls:List (Lk×TypeId)} (h:Opn P W t cs) (hf:ZWe P d t=some ls):∃ x:LT (ls.map (·.1)),cs=ZJk (ls.map (·.1)) x∧okL P W ls x:=by
 obtain ⟨H,enc,base,spare,held,fuel,y,h,hw⟩:=h
 obtain ⟨h1,h2⟩:=ZMX d t ls fuel cs y hf h hw
 exact ZPH ls cs h1 h2
theorem ZIx {P:Program} {W:World} {d:Nat} {t e:TypeId} {ls:List (Lk×TypeId)} {cd:Cdc} (mk:LT (ls.map (·.1))→cd.T) (hmk:∀ x,(cd.enc (mk x)).cells.toList=ZJk (ls.map (·.1)) x)
 {a:Option Addr} {len cap:Nat} (h:Opn P W t [.slice a len cap]) (hu:P.underlying t=some (.slice e)) (hf:ZWe P d e=some ls) (hc:P.cellsOf e=ls.length):
 len≤cap∧cap≤maxLen∧len*P.bytesOf e≤reachBytes∧∃ xs:List cd.T,Row cd (ZJj W) ⟨a,len,cap⟩ xs∧∀ x∈xs,∃ y,x=mk y∧okL P W ls y:=by
 obtain ⟨H,enc,base,spare,held,fuel,y,h,hw⟩:=h
 rcases DataW.trod_slice hu h with ⟨h0,_⟩|⟨ad,len',cap',elems,rest,n,_,h0,hy,hb,hl,hm,hlen,hel,_,_⟩
 ·cases h0
  exact ⟨Nat.le_refl _,Nat.zero_le _,by omega,[],⟨rfl,rfl⟩,fun x hx=>by cases hx⟩
 ·cases h0
  subst hy
  have hw':(elems.length+rest.length)*P.bytesOf e≤reachBytes:=by
   have:=hw ((elems.length+rest.length)*P.bytesOf e) (by simp [DataW.weights,hu])
   exact this
  refine ⟨hl,hm,Nat.le_trans (Nat.mul_le_mul_right _ (by omega)) hw',?_⟩
  have each:∀ i,i<len→∃ x:LT (ls.map (·.1)),okL P W ls x∧∀ j v,(ZJk (ls.map (·.1)) x)[j]?=some v→W.cell? (ad.add (i*ls.length+j))=some v:=by
   intro i hi
   have hi':i<elems.length:=by omega
   have:=hel i hi
   rw [List.getElem?_eq_getElem hi',Option.bind_eq_some_iff] at this
   obtain ⟨cs,hcs,htr⟩:=this
   obtain ⟨x,hx,ok⟩:=ZFH (P:=P) (W:=W) ⟨H,enc,base,spare,held,n,_,htr,fun k hk=>hw k (by
    simp only [DataW.weights,hu,List.mem_cons,List.mem_append]
    exact .inr (.inl (ZCd (List.mem_map.2 ⟨elems[i],List.getElem_mem _,rfl⟩) k hk)))⟩ hf
   refine ⟨x,ok,fun j v hj=>?_⟩
   obtain ⟨_,hl1,hl2⟩:=World.cells?_some hcs
   rw [hc] at hl1 hl2
   rw [←hx] at hj
   have hjl:j<ls.length:=by
    rcases Nat.lt_or_ge j ls.length with h|h
    ·exact h
    ·rw [List.getElem?_eq_none (by omega)] at hj; cases hj
   have:=hl2 j hjl
   rw [hj] at this
   rw [←this]
   congr 1
   obtain ⟨b,o,sp⟩:=ad
   unfold Addr.add
   by_cases h1:i*ls.length=0<;>by_cases h2:j=0<;>simp [h1,h2,Nat.add_assoc]
  have build:∀ m,m≤len→∃ xs:List (LT (ls.map (·.1))),xs.length=m∧(∀ x∈xs,okL P W ls x)∧∀ i v,(xs.flatMap (ZJk (ls.map (·.1))))[i]?=some v→W.cell? (ad.add i)=some v:=by
   intro m
   induction m with
   | zero=>exact fun _=>⟨[],rfl,(fun x hx=>absurd hx List.not_mem_nil),(fun i v hv=>by cases hv)⟩
   | succ m ihm=>
     intro hm'
     obtain ⟨xs,h1,h2,h3⟩:=ihm (by omega)
     obtain ⟨x,ok,hx⟩:=each m (by omega)
     refine ⟨xs++[x],by simp [h1],fun z hz=>?_,fun i v hv=>?_⟩
     ·rcases List.mem_append.1 hz with hz|hz
      ·exact h2 z hz
      ·rw [List.mem_singleton] at hz; subst hz; exact ok
     ·have hxl:(xs.flatMap (ZJk (ls.map (·.1)))).length=m*ls.length:=by
          rw [←h1]
          clear h1 h2 h3 hv
          induction xs with
          | nil=>simp
          | cons z xs ihx=>simp only [List.flatMap_cons,List.length_append,ihx,ZNW,List.length_map,List.length_cons,Nat.add_mul,Nat.one_mul]; omega
      rw [List.flatMap_append,List.flatMap_cons,List.flatMap_nil,List.append_nil] at hv
      by_cases hi:i<m*ls.length
      ·rw [List.getElem?_append_left (by omega)] at hv; exact h3 i v hv
      ·rw [List.getElem?_append_right (by omega),hxl] at hv
       have:=hx (i-m*ls.length) v hv
       rw [show m*ls.length+(i-m*ls.length)=i by omega] at this
       exact this
  obtain ⟨xs,h1,h2,h3⟩:=build len (Nat.le_refl _)
  refine ⟨xs.map mk,⟨by simp [h1],?_⟩,fun x hx=>?_⟩
  ·show (ZJj W).rds ad (ZG cd (xs.map mk))
   have:ZG cd (xs.map mk)=xs.flatMap (ZJk (ls.map (·.1))):=by
    clear h1 h2 h3
    induction xs with
    | nil=>rfl
    | cons z xs ihx=>rw [List.map_cons,ZAm,ihx,hmk]; rfl
   rw [this]
   exact h3
  ·obtain ⟨y,hy,rfl⟩:=List.mem_map.1 hx
   exact ⟨y,rfl,h2 y hy⟩
theorem Zd {b:Bool} {A B:Prop} (hb:b=true) (h:A):ZB b A B:=by subst hb; exact h
theorem ZQ {b:Bool} {A B:Prop} (hb:b=false) (h:B):ZB b A B:=by subst hb; exact h
theorem ZD {b:Bool} {A B:Prop} (h1:b=true→A) (h2:b=false→B):ZB b A B:=by
 cases b
 ·exact h2 rfl
 ·exact h1 rfl
theorem ZH {p:Prop} [Decidable p] {A B:Prop} (h1:p→A) (h2:¬p→B):ZB (decide p) A B:=by
 by_cases h:p
 ·rw [decide_eq_true h]; exact h1 h
 ·rw [decide_eq_false h]; exact h2 h
theorem ZN {T:Type} {J0:T→Hp→Prop} {B:(T→Hp→Prop)→Prop} (S:T→Hp→Prop) (h1:∀ x h,S x h→J0 x h) (h2:∀ J:T→Hp→Prop,(∀ x h,S x h→J x h)→B J):ZX J0 B:=h2 J0 h1
theorem Zb {T:Type} {x0:T} {h0:Hp} {B:(T→Hp→Prop)→T→Hp→Prop} (I:T→Hp→Prop) (μ:T→Nat) (hi:I x0 h0)
 (step:∀ (J:T→Hp→Prop) (x:T) (h:Hp),(∀ x' h',I x' h'→μ x'<μ x→J x' h')→I x h→B J x h):Zg x0 h0 B:=
 ⟨I,fun x _=>μ x,hi,fun x h hI=>step _ x h (fun _ _ a b=>⟨a,b⟩) hI⟩
theorem w64 {n:Int} (h1:-9223372036854775808≤n) (h2:n≤9223372036854775807):IntKind.i64.wrap n=n:=by
 rw [IntKind.wrap_i64]; omega
theorem ZAH {n:Nat} (h:n<9223372036854775807):IntKind.i64.wrap ((n:Int)+1)=((n+1:Nat):Int):=by
 rw [w64 (by omega) (by omega)]; omega
theorem ZXT {P:Program} {f:FuncId} {args:Array Value} {W:World} {R:Value→Prop} (s:ZG4 P f args (ZJj W) fun v h'=>R v∧(ZJj W).sub h'):
 Calls P f args W fun e W'=>(∃ v,e=.returned v∧R v)∧RowKit.Below W.heap.size W W':=by
 refine (s W Hp.emp (ZWW W) (Hp.emp_le W) (fun b=>.inr rfl)).mono ?_
 rintro e W' ⟨v,h',rfl,⟨hR,hsub⟩,hle,_,_,sm⟩
 have hb:∀ k,k<W.heap.size→W'.heap[k]?=W.heap[k]?:=by
  intro k hk
  have h1:W.heap[k]?=some W.heap[k]:=Array.getElem?_eq_getElem hk
  rw [h1]
  exact hle k _ (hsub k _ h1)
 refine ⟨⟨v,rfl,hR⟩,sm.os,sm.tape,sm.output,?_,hb⟩
 rcases Nat.eq_zero_or_pos W.heap.size with h0|h0
 ·omega
 ·have:=hb (W.heap.size-1) (by omega)
  rw [Array.getElem?_eq_getElem (show W.heap.size-1<W.heap.size by omega)] at this
  rcases Nat.lt_or_ge (W.heap.size-1) W'.heap.size with h|h
  ·omega
  ·rw [Array.getElem?_eq_none h] at this; cases this
def ZCn {α β:Type} (R:α→β→Prop):List α→List β→Prop
 | [],[]=>True
 | a::l,b::m=>R a b∧ZCn R l m
 | _,_=>False
theorem ZCn.len {α β:Type} {R:α→β→Prop}:∀ {l:List α} {m:List β},ZCn R l m→l.length=m.length
 | [],[],_=>rfl
 | _::_,_::_,h=>by simp [ZCn.len h.2]
 | [],_::_,h=>h.elim
 | _::_,[],h=>h.elim
theorem ZCn.get {α β:Type} {R:α→β→Prop}:∀ {l:List α} {m:List β},ZCn R l m→∀ (i:Nat) (a:α),l[i]?=some a→∃ b,m[i]?=some b∧R a b
 | [],[],_,i,a,h=>by cases h
 | x::l,y::m,hr,0,a,h=>by simp at h; subst h; exact ⟨y,rfl,hr.1⟩
 | x::l,y::m,hr,i+1,a,h=>ZCn.get hr.2 i a (by simpa using h)
 | [],_::_,h,_,_,_=>h.elim
 | _::_,[],h,_,_,_=>h.elim
theorem ZCn.mono {α β:Type} {R S:α→β→Prop} (hRS:∀ a b,R a b→S a b):∀ {l:List α} {m:List β},ZCn R l m→ZCn S l m
 | [],[],_=>trivial
 | _::_,_::_,h=>⟨hRS _ _ h.1,ZCn.mono hRS h.2⟩
 | [],_::_,h=>h.elim
 | _::_,[],h=>h.elim
theorem ZCn.app {α β:Type} {R:α→β→Prop}:∀ {l:List α} {m:List β} {l':List α} {m':List β},ZCn R l m→ZCn R l' m'→ZCn R (l++l') (m++m')
 | [],[],_,_,_,h=>h
 | _::_,_::_,_,_,h,h'=>⟨h.1,ZCn.app h.2 h'⟩
 | [],_::_,_,_,h,_=>h.elim
 | _::_,[],_,_,h,_=>h.elim
def ZD0 (g:Hp):List Sl→List (List Int)→Prop:=ZCn fun s bs=>Row (cI .u8) g s bs
theorem ZD0.sub {g h:Hp} (hs:g.sub h) {l:List Sl} {m:List (List Int)} (r:ZD0 g l m):ZD0 h l m:=ZCn.mono (fun _ _ h=>Row.sub h hs) r
theorem Z5 {α β:Type} (f:α→β→α) (a:α) (l:List β) {i:Nat} {x:β} (hx:l[i]?=some x):(l.take (i+1)).foldl f a=f ((l.take i).foldl f a) x:=by
 have:l.take (i+1)=l.take i++[x]:=by
  rw [List.take_add_one,hx]; rfl
 rw [this,List.foldl_append]; rfl
variable {cd:Cdc} {g h c:Hp} {s t:Sl} {xs ys:List cd.T} {l:List Hp}
theorem On.emp {h:Hp} {l:List Hp} (o:On h l):On h (Hp.emp::l):=
 ⟨List.pairwise_cons.2 ⟨fun _ _ _=>.inl rfl,o.1⟩,fun c hc=>by
   rcases List.mem_cons.1 hc with rfl|hc
   ·intro b o h; cases h
   ·exact o.2 c hc⟩
theorem ZGk (p q r vs:List Value) (hl:q.length=vs.length):ZEj (p++(q++r)) p.length vs=p++(vs++r):=by
 unfold ZEj
 rw [List.take_append_of_le_length (Nat.le_refl _),List.take_length,←List.drop_drop,List.drop_append_of_le_length (Nat.le_refl _),List.drop_length,List.nil_append,←hl,
  List.drop_append_of_le_length (Nat.le_refl _),List.drop_length,List.nil_append]
theorem ZB4 (o:On h (c::l)) (hm:cd.mem=true) (w:Own cd c s xs) {a:Addr} (ha:s.a=some a) {i:Nat} (hi:i<xs.length) {m:Nat} (hn:i*cd.n=m) {x:cd.T} {K:Hp→Prop}
 (hK:∀ c' h',On h' (c'::l)→Own cd c' s (xs.set i x)→K h'):ZU cd (a.add m) x h K:=by
 subst hn
 have hr:=w.2
 rw [ha] at hr
 obtain ⟨hsp,pre,rest,ZBf,e,fz,hb,hpre,hroom,hfz⟩:=hr
 have hx:=(ZAV hm x).1
 have hxl:((cd.enc x).cells.toList).length=cd.n:=by simpa using hx
 have hol:((cd.enc xs[i]).cells.toList).length=cd.n:=by simpa using (ZAV hm xs[i]).1
 have hcl:(ZG cd xs).length=xs.length*cd.n:=Ze hm xs
 have hsplit:ZG cd xs=ZG cd (xs.take i)++((cd.enc xs[i]).cells.toList++ZG cd (xs.drop (i+1))):=by
  rw [←ZAm,←Zl,←List.drop_eq_getElem_cons hi,List.take_append_drop]
 have htl:(ZG cd (xs.take i)).length=i*cd.n:=by rw [Ze hm,List.length_take,Nat.min_eq_left (by omega)]
 have hmul:(i+1)*cd.n≤xs.length*cd.n:=Nat.mul_le_mul_right _ hi
 rw [Nat.add_mul,Nat.one_mul] at hmul
 have hfit:a.off+i*cd.n+cd.n≤(pre++(ZG cd xs++(rest++ZBf))).length:=by
  simp only [List.length_append,hpre,hcl]; omega
 rw [ZA7 hsp]
 refine ⟨Hp.sub_may (o.2 c (by simp)) (ZBB hb hfit fun k h1 h2=>hfz k (by omega) (by omega)),?_⟩
 have o':=o.wrs hb (i:=a.off+i*cd.n) (vs:=(cd.enc x).cells.toList) (by rw [hxl]; exact hfit)
 refine hK _ _ o' ⟨by rw [w.1]; simp,?_⟩
 rw [ha]
 refine ⟨hsp,pre,rest,ZBf,e,fz,?_,hpre,?_,hfz⟩
 ·have hset:ZEj (pre++(ZG cd xs++(rest++ZBf))) (a.off+i*cd.n) (cd.enc x).cells.toList=pre++(ZG cd (xs.set i x)++(rest++ZBf)):=by
   have e1:pre++(ZG cd xs++(rest++ZBf))=(pre++ZG cd (xs.take i))++((cd.enc xs[i]).cells.toList++(ZG cd (xs.drop (i+1))++(rest++ZBf))):=by
    rw [hsplit]; simp only [List.append_assoc]
   have e2:a.off+i*cd.n=(pre++ZG cd (xs.take i)).length:=by rw [List.length_append,hpre,htl]
   have e3:ZG cd (xs.set i x)=ZG cd (xs.take i)++((cd.enc x).cells.toList++ZG cd (xs.drop (i+1))):=by
    rw [List.set_eq_take_append_cons_drop,if_pos hi,Zl,ZAm]
   rw [e1,e2,ZGk _ _ _ _ (by rw [hol,hxl]),e3]
   simp only [List.append_assoc]
  rw [←hset]
  simp [Hp.upd]
 ·rw [List.length_set]; exact hroom
theorem On.at' {h:Hp} {cs l:List Hp} (o:On h (cs++l)) (i:Nat) {c:Hp} (hc:cs[i]?=some c):On h (c::(cs.eraseIdx i++l)):=by
 have hlt:i<cs.length:=(List.getElem?_eq_some_iff.1 hc).1
 have:=o.pull i (c:=c) (by rw [List.getElem?_append_left hlt]; exact hc)
 rwa [List.eraseIdx_append_of_lt_length hlt] at this
theorem ZIE {α:Type}:∀ (cs:List α) (i:Nat) (c:α),i<cs.length→(c::cs.eraseIdx i).Perm (cs.set i c)
 | [],_,_,h=>by simp at h
 | x::cs,0,c,_=>List.Perm.refl _
 | x::cs,i+1,c,h=>(List.Perm.swap x c _).trans (List.Perm.cons x (ZIE cs i c (by simpa using h)))
theorem On.back' {h:Hp} {cs l:List Hp} {i:Nat} {c:Hp} (o:On h (c::(cs.eraseIdx i++l))) (hi:i<cs.length):On h (cs.set i c++l):=by
 refine o.perm ?_
 exact (ZIE cs i c hi).append_right l
variable {cd:Cdc} {g h c:Hp} {s t:Sl} {xs ys:List cd.T} {l:List Hp}
theorem Own.head (w:Own cd c s xs) (hm:cd.mem=true) {k:Nat} (hk:k≤xs.length):Own cd c ⟨s.a,k,s.cap⟩ (xs.take k):=by
 refine ⟨by simp; omega,?_⟩
 have hr:=w.2
 cases ha:s.a with
 | none=>rw [ha] at hr; exact ⟨hr.1,by rw [hr.2]; simp⟩
 | some a=>
   rw [ha] at hr
   obtain ⟨hsp,pre,rest,ZBf,e,fz,hb,hpre,hroom,hfz⟩:=hr
   refine ⟨hsp,pre,ZG cd (xs.drop k)++rest,ZBf,e,fz,?_,hpre,?_,hfz⟩
   ·rw [hb]
    congr 2
    rw [←List.append_assoc (ZG cd (xs.take k)),←List.append_assoc (ZG cd (xs.take k)),←Zl,List.take_append_drop,List.append_assoc]
   ·rw [List.length_append,Ze hm,List.length_take,List.length_drop,Nat.min_eq_left hk,←Nat.add_assoc,←Nat.add_mul]
    rw [show k+(xs.length-k)=xs.length by omega]
    exact hroom
theorem Own.le_cap (w:Own cd c s xs) (hn:0<cd.n):xs.length≤s.cap:=by
 have hr:=w.2
 cases ha:s.a with
 | none=>rw [ha] at hr; rw [hr.2]; simp
 | some a=>
   rw [ha] at hr
   obtain ⟨_,_,rest,_,_,_,_,_,hroom,_⟩:=hr
   exact Nat.le_of_mul_le_mul_right (by omega:xs.length*cd.n≤s.cap*cd.n) hn
theorem ZJy {e:TypeId} {bytes:Nat} (o:On h (c::l)) (hm:cd.mem=true) (w:Own cd c s xs) (hy:Row cd g t ys) (hg:g.sub h) (hfit0:xs.length+ys.length≤s.cap) (ha0:s.a≠none)
 {K:Option Addr→Nat→Nat→Hp→Prop} (hK:∀ (c':Hp) (h':Hp),On h' (c'::l)→Own cd c' ⟨s.a,xs.length+ys.length,s.cap⟩ (xs++ys)→K s.a (xs.length+ys.length) s.cap h'):
 ZY cd e bytes s.a s.len s.cap t.a t.len h K:=by
 unfold ZY
 refine ZCk hy hg ?_
 have hx1:=w.1
 have hy1:=hy.1
 refine ⟨fun hle=>?_,fun hlt=>by omega⟩
 have hr:=w.2
 cases ha:s.a with
 | none=>exact absurd ha ha0
 | some a=>
   rw [ha] at hr
   obtain ⟨hsp,pre,rest,ZBf,e',fz,hb,hpre,hroom,hfz⟩:=hr
   dsimp only
   have hyl:(ZG cd ys).length=ys.length*cd.n:=Ze hm ys
   have hxl:(ZG cd xs).length=xs.length*cd.n:=Ze hm xs
   have hmul:(xs.length+ys.length)*cd.n≤s.cap*cd.n:=Nat.mul_le_mul_right _ hfit0
   rw [Nat.add_mul] at hmul
   have hfit:ys.length*cd.n≤rest.length:=by omega
   have hadd:a.add (s.len*cd.n)=⟨a.block,a.off+s.len*cd.n,none⟩:=ZA7 hsp _
   have hlen:a.off+s.len*cd.n+t.len*cd.n≤(pre++(ZG cd xs++(rest++ZBf))).length:=by
    simp only [List.length_append,hpre,hxl,hx1,hy1]; omega
   rw [hadd]
   refine ⟨Hp.sub_may (o.2 c (by simp)) (ZBB hb hlen fun k h1 h2=>hfz k (by omega) ?_),?_⟩
   ·rw [hx1,hy1] at h2; omega
   ·have o':=o.wrs hb (i:=a.off+s.len*cd.n) (vs:=ZG cd ys) (by rw [hyl,←hy1]; exact hlen)
    have hKK:=hK _ _ o' ?_
    ·rw [ha,hx1] at hKK; rw [hx1,hy1]; exact hKK
    have hset:ZEj (pre++(ZG cd xs++(rest++ZBf))) (a.off+s.len*cd.n) (ZG cd ys)=pre++(ZG cd (xs++ys)++(rest.drop (ys.length*cd.n)++ZBf)):=by
     have hp:(pre++ZG cd xs).length=a.off+s.len*cd.n:=by simp [hpre,hxl,hx1]
     unfold ZEj
     rw [←List.append_assoc pre,←hp,List.take_append_of_le_length (Nat.le_refl _),List.take_length,←List.drop_drop,List.drop_append_of_le_length (Nat.le_refl _),List.drop_length,List.nil_append,hyl,
         List.drop_append_of_le_length hfit,Zl]
     simp [List.append_assoc]
    rw [hset]
    refine ⟨by simp,?_⟩
    show match s.a with|none=>_|some a=>_
    rw [ha]
    refine ⟨hsp,pre,rest.drop (ys.length*cd.n),ZBf,e',fz,by simp [Hp.upd],hpre,?_,hfz⟩
    simp only [List.length_append,List.length_drop,Nat.add_mul]
    omega
theorem ZF5 (o:On h (c::l)) (hm:cd.mem=true) (hn:0<cd.n) (w:Own cd c s xs) {k m:Nat} (hk:xs.length≤k) (hmc:k+m≤s.cap) (hm0:0<m) {z:cd.T} {zz:Nat} (hz:zz=cd.n) {K:Hp→Prop}
 (hK:∀ c' h',On h' (c'::l)→Own cd c' s xs→K h'):ZDx cd z (Zj s.a k s.cap zz) m h K:=by
 subst hz
 have hr:=w.2
 unfold Zj
 rw [if_neg (by omega)]
 cases ha:s.a with
 | none=>rw [ha] at hr; omega
 | some a=>
   rw [ha] at hr
   obtain ⟨hsp,pre,rest,ZBf,e,fz,hb,hpre,hroom,hfz⟩:=hr
   have hxl:(ZG cd xs).length=xs.length*cd.n:=Ze hm xs
   have hzl:(ZG cd (List.replicate m z)).length=m*cd.n:=by rw [Ze hm]; simp
   have h1:(k+m)*cd.n≤s.cap*cd.n:=Nat.mul_le_mul_right _ hmc
   have h2:xs.length*cd.n≤k*cd.n:=Nat.mul_le_mul_right _ hk
   rw [Nat.add_mul] at h1
   have hfit:a.off+k*cd.n+m*cd.n≤(pre++(ZG cd xs++(rest++ZBf))).length:=by
    simp only [List.length_append,hpre,hxl]; omega
   show Hp.may h (a.add (k*cd.n)) (m*cd.n)∧K (h.wrs (a.add (k*cd.n)) 0 (ZG cd (List.replicate m z)))
   rw [ZA7 hsp]
   refine ⟨Hp.sub_may (o.2 c (by simp)) (ZBB hb hfit fun j h3 h4=>hfz j (by omega) (by omega)),?_⟩
   have o':=o.wrs hb (i:=a.off+k*cd.n) (vs:=ZG cd (List.replicate m z)) (by rw [hzl]; exact hfit)
   refine hK _ _ o' ⟨w.1,?_⟩
   rw [ha]
   have hset:ZEj (pre++(ZG cd xs++(rest++ZBf))) (a.off+k*cd.n) (ZG cd (List.replicate m z))=
    pre++(ZG cd xs++((rest.take (k*cd.n-xs.length*cd.n)++(ZG cd (List.replicate m z)++rest.drop (k*cd.n-xs.length*cd.n+m*cd.n)))++ZBf)):=by
    have e1:rest=rest.take (k*cd.n-xs.length*cd.n)++((rest.drop (k*cd.n-xs.length*cd.n)).take (m*cd.n)++rest.drop (k*cd.n-xs.length*cd.n+m*cd.n)):=by
     rw [←List.drop_drop,List.take_append_drop,List.take_append_drop]
    have e2:pre++(ZG cd xs++(rest++ZBf))=(pre++(ZG cd xs++rest.take (k*cd.n-xs.length*cd.n)))++((rest.drop (k*cd.n-xs.length*cd.n)).take (m*cd.n)++(rest.drop (k*cd.n-xs.length*cd.n+m*cd.n)++ZBf)):=by
     conv=>lhs; rw [e1]
     simp only [List.append_assoc]
    have e3:a.off+k*cd.n=(pre++(ZG cd xs++rest.take (k*cd.n-xs.length*cd.n))).length:=by
     simp only [List.length_append,hpre,hxl,List.length_take]; omega
    rw [e2,e3,ZGk _ _ _ _ (by rw [hzl]; simp; omega)]
    simp only [List.append_assoc]
   rw [hset]
   refine ⟨hsp,pre,rest.take (k*cd.n-xs.length*cd.n)++(ZG cd (List.replicate m z)++rest.drop (k*cd.n-xs.length*cd.n+m*cd.n)),ZBf,e,fz,by simp [Hp.upd],hpre,?_,hfz⟩
   simp only [List.length_append,List.length_take,List.length_drop,hzl]
   omega
variable {cd cf:Cdc} {g h c:Hp} {s t:Sl} {xs ys:List cd.T} {l:List Hp}
theorem Z9 (o:On h (c::l)) (hm:cd.mem=true) (hmf:cf.mem=true) (w:Own cd c s xs) {a:Addr} (ha:s.a=some a) {i:Nat} {x0:cd.T} (hx0:xs[i]?=some x0) {m k:Nat} (hn:i*cd.n=m) {y:cf.T} {x':cd.T}
 (hx:ZEj (cd.enc x0).cells.toList k (cf.enc y).cells.toList=(cd.enc x').cells.toList) (hk:k+cf.n≤cd.n) {K:Hp→Prop}
 (hK:∀ c' h',On h' (c'::l)→Own cd c' s (xs.set i x')→K h'):ZU cf ((a.add m).add k) y h K:=by
 subst hn
 have hi:i<xs.length:=(List.getElem?_eq_some_iff.1 hx0).1
 have hxi:xs[i]=x0:=by have:=List.getElem?_eq_getElem hi; rw [hx0] at this; exact (Option.some.inj this).symm
 have hr:=w.2
 rw [ha] at hr
 obtain ⟨hsp,pre,rest,ZBf,e,fz,hb,hpre,hroom,hfz⟩:=hr
 have hyl:((cf.enc y).cells.toList).length=cf.n:=by simpa using (ZAV hmf y).1
 have hol:((cd.enc x0).cells.toList).length=cd.n:=by simpa using (ZAV hm x0).1
 have hcl:(ZG cd xs).length=xs.length*cd.n:=Ze hm xs
 have hsplit:ZG cd xs=ZG cd (xs.take i)++((cd.enc x0).cells.toList++ZG cd (xs.drop (i+1))):=by
  rw [←hxi,←ZAm,←Zl,←List.drop_eq_getElem_cons hi,List.take_append_drop]
 have htl:(ZG cd (xs.take i)).length=i*cd.n:=by rw [Ze hm,List.length_take,Nat.min_eq_left (by omega)]
 have hmul:(i+1)*cd.n≤xs.length*cd.n:=Nat.mul_le_mul_right _ hi
 rw [Nat.add_mul,Nat.one_mul] at hmul
 have hadd:(a.add (i*cd.n)).add k=⟨a.block,a.off+i*cd.n+k,none⟩:=by rw [ZA7 hsp,ZCO]
 have hfit:a.off+i*cd.n+k+cf.n≤(pre++(ZG cd xs++(rest++ZBf))).length:=by
  simp only [List.length_append,hpre,hcl]; omega
 rw [hadd]
 refine ⟨Hp.sub_may (o.2 c (by simp)) (ZBB hb hfit fun j h1 h2=>hfz j (by omega) (by omega)),?_⟩
 have o':=o.wrs hb (i:=a.off+i*cd.n+k) (vs:=(cf.enc y).cells.toList) (by rw [hyl]; exact hfit)
 refine hK _ _ o' ⟨by rw [w.1]; simp,?_⟩
 rw [ha]
 refine ⟨hsp,pre,rest,ZBf,e,fz,?_,hpre,?_,hfz⟩
 ·have hset:ZEj (pre++(ZG cd xs++(rest++ZBf))) (a.off+i*cd.n+k) (cf.enc y).cells.toList=pre++(ZG cd (xs.set i x')++(rest++ZBf)):=by
   have e0:(cd.enc x0).cells.toList=(cd.enc x0).cells.toList.take k++(((cd.enc x0).cells.toList.drop k).take cf.n++(cd.enc x0).cells.toList.drop (k+cf.n)):=by
    rw [←List.drop_drop,List.take_append_drop,List.take_append_drop]
   have e1:pre++(ZG cd xs++(rest++ZBf))=(pre++(ZG cd (xs.take i)++(cd.enc x0).cells.toList.take k))++(((cd.enc x0).cells.toList.drop k).take cf.n++((cd.enc x0).cells.toList.drop (k+cf.n)++(ZG cd (xs.drop (i+1))++(rest++ZBf)))):=by
    rw [hsplit]
    conv=>lhs; rw [e0]
    simp only [List.append_assoc]
   have e2:a.off+i*cd.n+k=(pre++(ZG cd (xs.take i)++(cd.enc x0).cells.toList.take k)).length:=by
    simp only [List.length_append,hpre,htl,List.length_take,hol]; omega
   have e3:ZG cd (xs.set i x')=ZG cd (xs.take i)++((cd.enc x').cells.toList++ZG cd (xs.drop (i+1))):=by
    rw [List.set_eq_take_append_cons_drop,if_pos hi,Zl,ZAm]
   rw [e1,e2,ZGk _ _ _ _ (by simp [hol,hyl]; omega),e3,←hx]
   unfold ZEj
   rw [hyl]
   simp only [List.append_assoc]
  rw [←hset]
  simp [Hp.upd]
 ·rw [List.length_set]; exact hroom
theorem On.pick {l:List Hp} (o:On h l) (is:List Nat) (k:Nat) (hn:is.Nodup) (hi:∀ i∈is,i<k):On h (is.filterMap (fun i=>l[i]?)++l.drop k):=by
 have key:∀ (i j:Nat) (a b:Hp),i≠j→l[i]?=some a→l[j]?=some b→a.dj b:=by
  intro i j a b hne ha hb
  obtain ⟨hi',rfl⟩:=List.getElem?_eq_some_iff.1 ha
  obtain ⟨hj',rfl⟩:=List.getElem?_eq_some_iff.1 hb
  have hp:=List.pairwise_iff_getElem.1 o.1
  rcases Nat.lt_or_gt_of_ne hne with h'|h'
  ·exact hp i j hi' hj' h'
  ·exact Hp.dj_symm (hp j i hj' hi' h')
 refine ⟨List.pairwise_append.2 ⟨?_,o.1.sublist (List.drop_sublist _ _),?_⟩,?_⟩
 ·exact List.pairwise_filterMap.2 (hn.imp fun hne b hb b' hb'=>key _ _ _ _ hne hb hb')
 ·intro a ha b hb
  obtain ⟨i,hi',ha'⟩:=List.mem_filterMap.1 ha
  obtain ⟨j,hj⟩:=List.getElem?_of_mem hb
  rw [List.getElem?_drop] at hj
  exact key i (k+j) a b (by have:=hi i hi'; omega) ha' hj
 ·intro c hc
  rcases List.mem_append.1 hc with hc|hc
  ·obtain ⟨i,_,h'⟩:=List.mem_filterMap.1 hc
   exact o.2 c (List.mem_of_getElem? h')
  ·exact o.2 c (List.mem_of_mem_drop hc)
variable {cd cf:Cdc} {g h c:Hp} {s t:Sl} {xs ys:List cd.T} {l:List Hp}
theorem ZHu (o:On h (c::l)) (hm:cd.mem=true) (w:Own cd c s xs) {a:Addr} (ha:s.a=some a) {dlen n cap0:Nat} {src:Option Addr} (hy:Row cd g ⟨src,min n dlen,cap0⟩ ys) (hg:g.sub h) (hfit:xs.length+ys.length≤s.cap)
 {K:Int→Hp→Prop} (hK:∀ c' h',On h' (c'::l)→Own cd c' ⟨s.a,xs.length+ys.length,s.cap⟩ (xs++ys)→K (min n dlen:Nat) h'):ZA6 cd (some (a.add (xs.length*cd.n))) dlen src n h K:=by
 unfold ZA6
 refine ZCk hy hg ?_
 have hr:=w.2
 rw [ha] at hr
 obtain ⟨hsp,pre,rest,ZBf,e',fz,hb,hpre,hroom,hfz⟩:=hr
 have hxl:(ZG cd xs).length=xs.length*cd.n:=Ze hm xs
 have hyl:(ZG cd ys).length=ys.length*cd.n:=Ze hm ys
 have hmul:(xs.length+ys.length)*cd.n≤s.cap*cd.n:=Nat.mul_le_mul_right _ hfit
 rw [Nat.add_mul] at hmul
 have hy1:min n dlen=ys.length:=hy.1
 have hadd:a.add (xs.length*cd.n)=⟨a.block,a.off+xs.length*cd.n,none⟩:=ZA7 hsp _
 have hlen:a.off+xs.length*cd.n+ys.length*cd.n≤(pre++(ZG cd xs++(rest++ZBf))).length:=by
  simp only [List.length_append,hpre,hxl]; omega
 dsimp only
 rw [hadd]
 refine ⟨Hp.sub_may (o.2 c (by simp)) (ZBB hb (by rw [hy1]; exact hlen) fun k h1 h2=>hfz k (by omega) (by rw [hy1] at h2; omega)),?_⟩
 have o':=o.wrs hb (i:=a.off+xs.length*cd.n) (vs:=ZG cd ys) (by rw [hyl]; exact hlen)
 refine hK _ _ o' ⟨by simp,?_⟩
 show match s.a with|none=>_|some a=>_
 rw [ha]
 have hset:ZEj (pre++(ZG cd xs++(rest++ZBf))) (a.off+xs.length*cd.n) (ZG cd ys)=pre++(ZG cd (xs++ys)++(rest.drop (ys.length*cd.n)++ZBf)):=by
  have hp:(pre++ZG cd xs).length=a.off+xs.length*cd.n:=by simp [hpre,hxl]
  unfold ZEj
  rw [←List.append_assoc pre,←hp,List.take_append_of_le_length (Nat.le_refl _),List.take_length,←List.drop_drop,List.drop_append_of_le_length (Nat.le_refl _),List.drop_length,List.nil_append,hyl,
   List.drop_append_of_le_length (by omega),Zl]
  simp [List.append_assoc]
 rw [hset]
 refine ⟨hsp,pre,rest.drop (ys.length*cd.n),ZBf,e',fz,by simp [Hp.upd],hpre,?_,hfz⟩
 simp only [List.length_append,List.length_drop,Nat.add_mul]
 omega
theorem ZNO (o:On h (c::l)) (hm:cd.mem=true) (w:Own cd c s xs) {a:Addr} (ha:s.a=some a) {k dlen n cap0:Nat} {src:Option Addr} (hy:Row cd g ⟨src,min n dlen,cap0⟩ ys) (hg:g.sub h) (hk:k+ys.length≤xs.length)
 {K:Int→Hp→Prop} (hK:∀ c' h',On h' (c'::l)→Own cd c' s (xs.take k++(ys++xs.drop (k+ys.length)))→K (min n dlen:Nat) h'):ZA6 cd (some (a.add (k*cd.n))) dlen src n h K:=by
 unfold ZA6
 refine ZCk hy hg ?_
 have hr:=w.2
 rw [ha] at hr
 obtain ⟨hsp,pre,rest,ZBf,e',fz,hb,hpre,hroom,hfz⟩:=hr
 have hxl:(ZG cd xs).length=xs.length*cd.n:=Ze hm xs
 have hyl:(ZG cd ys).length=ys.length*cd.n:=Ze hm ys
 have hmul:(k+ys.length)*cd.n≤xs.length*cd.n:=Nat.mul_le_mul_right _ hk
 rw [Nat.add_mul] at hmul
 have hy1:min n dlen=ys.length:=hy.1
 have hadd:a.add (k*cd.n)=⟨a.block,a.off+k*cd.n,none⟩:=ZA7 hsp _
 have htl:(ZG cd (xs.take k)).length=k*cd.n:=by rw [Ze hm,List.length_take,Nat.min_eq_left (by omega)]
 have hml:(ZG cd ((xs.drop k).take ys.length)).length=ys.length*cd.n:=by rw [Ze hm,List.length_take,List.length_drop,Nat.min_eq_left (by omega)]
 have hlen:a.off+k*cd.n+ys.length*cd.n≤(pre++(ZG cd xs++(rest++ZBf))).length:=by
  simp only [List.length_append,hpre,hxl]; omega
 dsimp only
 rw [hadd]
 refine ⟨Hp.sub_may (o.2 c (by simp)) (ZBB hb (by rw [hy1]; exact hlen) fun j h1 h2=>hfz j (by omega) (by rw [hy1] at h2; omega)),?_⟩
 have o':=o.wrs hb (i:=a.off+k*cd.n) (vs:=ZG cd ys) (by rw [hyl]; exact hlen)
 have hl2:(xs.take k++(ys++xs.drop (k+ys.length))).length=xs.length:=by simp; omega
 refine hK _ _ o' ⟨by rw [hl2]; exact w.1,?_⟩
 rw [ha]
 have hset:ZEj (pre++(ZG cd xs++(rest++ZBf))) (a.off+k*cd.n) (ZG cd ys)=pre++(ZG cd (xs.take k++(ys++xs.drop (k+ys.length)))++(rest++ZBf)):=by
  have e1:xs=xs.take k++((xs.drop k).take ys.length++xs.drop (k+ys.length)):=by
   rw [←List.drop_drop,List.take_append_drop,List.take_append_drop]
  have e2:pre++(ZG cd xs++(rest++ZBf))=(pre++ZG cd (xs.take k))++(ZG cd ((xs.drop k).take ys.length)++(ZG cd (xs.drop (k+ys.length))++(rest++ZBf))):=by
   conv=>lhs; rw [e1]
   rw [Zl,Zl]
   simp only [List.append_assoc]
  have e3:a.off+k*cd.n=(pre++ZG cd (xs.take k)).length:=by rw [List.length_append,hpre,htl]
  rw [e2,e3,ZGk _ _ _ _ (by rw [hml,hyl]),Zl,Zl]
  simp only [List.append_assoc]
 rw [hset]
 refine ⟨hsp,pre,rest,ZBf,e',fz,by simp [Hp.upd],hpre,?_,hfz⟩
 rw [hl2]; exact hroom
def Clo {A:Type} (P:Program) (cc:List Hp) (f:FnV) (args:A→List Value) (c:Cdc) (φ:A→c.T):Prop:=
 ∀ (x:A) (h:Hp) (l:List Hp) (Q:c.T→Hp→Prop),(∀ p∈cc,p∈l)→On h l→(∀ h',On h' l→Q (φ x) h')→ZBL P f.g f.first f.cap (args x) c h Q
def ZOi:Option Nat→Int
 | none=>-1
 | some i=>i
theorem ZIB (a:Option Addr) (cap z:Nat):Zj a 0 cap z=a:=by
 unfold Zj
 split
 ·rfl
 ·cases a<;>simp
theorem ZDy {e:TypeId} {bytes:Nat} (o:On h l) (hg:g∈l) (r:Row cd g t ys) (hm:cd.mem=true) (hn:0<cd.n) (hb:bytes≤1024) (hl:ys.length≤1000000) {Q:Sl→Hp→Prop} (hq:∀ s d h',On h' (d::l)→Own cd d s ys→Q s h'):
 ZB t.a.isNone (Q ⟨none,0,0⟩ h) (ZL (.cells #[] e) h fun k1 h1=>ZY cd e bytes (some ⟨k1,0,none⟩) 0 0 t.a t.len h1 fun p1 k2 k3 h2=>Q ⟨p1,k2,k3⟩ h2):=by
 refine ZD (fun hn=>?_) fun _=>?_
 ·have ha:t.a=none:=Option.isNone_iff_eq_none.1 hn
  have:ys=[]:=by
   have:=r.2
   rw [ha] at this
   exact this
  subst this
  exact hq _ Hp.emp h o.emp (Own.nil _)
 ·refine ZI (vs:=[]) o fun k1 h1 o1=>?_
  have w0:Own cd (ob k1 [] e) ⟨some ⟨k1,0,none⟩,0,0⟩ []:=ZBG (cd:=cd) (xs:=[]) (rest:=[]) rfl rfl (by simp)
  have hroom:(0+ys.length)*bytes≤ZAI:=by
   rw [Nat.zero_add]
   exact Nat.le_trans (Nat.mul_le_mul hl hb) (by unfold ZAI; omega)
  exact ZV (g:=g) (s:=⟨some ⟨k1,0,none⟩,0,0⟩) (t:=t) o1 hm w0 hn r (o1.mem (by simp [hg])) (by simpa using hroom) fun c p k2 k3 h3 o3 w3=>hq ⟨p,k2,k3⟩ c h3 o3 (by simpa using w3)
theorem ZIm {e:TypeId} {bytes z:Nat} {zero:cd.T} (o:On h (c::l)) (w:Own cd c s xs) (hm:cd.mem=true) (hn:0<cd.n) (hz:z=cd.n) {i j:Nat} (hij:i≤j) (hj:j≤xs.length)
 {Q:Sl→Hp→Prop} (hq:∀ s' c' h',On h' (c'::l)→Own cd c' s' (xs.take i++xs.drop j)→Q s' h'):
 ZH3 s.cap (some (i:Int)) (j:Int) (s.len:Int) fun _ _ _=>ZB ((i:Int)==(j:Int)) (Q s h) (ZAD s.len s.cap none (some (i:Int)) fun k4 k5=>ZAD s.len s.cap (some (j:Int)) none fun k6 k7=>
  ZY cd e bytes (Zj s.a k4 s.cap z) (k5-k4) (s.cap-k4) (Zj s.a k6 s.cap z) (k7-k6) h fun p1 k8 k9 h1=>ZAD k8 k9 (some (k8:Int)) (some (s.len:Int)) fun k10 k11=>ZDx cd zero (Zj p1 k10 k9 z) (k11-k10) h1 fun h2=>Q ⟨p1,k8,k9⟩ h2):=by
 have hlen:s.len=xs.length:=w.1
 have hcap:=w.le_cap hn
 refine ⟨by omega,by omega,by omega,by omega,by omega,?_⟩
 refine ZD (fun he=>?_) fun hne=>?_
 ·have he:i=j:=by
   have:(i:Int)=(j:Int):=by simpa using he
   omega
  subst he
  rw [List.take_append_drop] at hq
  exact hq s c h o w
 ·have hne:i≠j:=by
   have:¬(i:Int)=(j:Int):=by simpa using hne
   omega
  have ha0:s.a≠none:=by
   intro ha
   have:=w.2
   rw [ha] at this
   rw [this.2] at hj
   simp at hj; omega
  refine ⟨by omega,by omega,by omega,by omega,?_⟩
  simp only [Int.toNat_natCast,Nat.sub_zero]
  rw [ZIB]
  have w0:Own cd c ⟨s.a,i,s.cap⟩ (xs.take i):=w.head hm (by omega)
  have r1:Row cd c ⟨Zj s.a j s.cap z,s.len-j,s.cap⟩ (xs.drop j):=by
   have:=(w.row).cut (k:=j) (m:=s.len) (cap':=s.cap) (by omega) (by omega) hcap hm (z:=z) hz
   rw [hlen,List.take_of_length_le (by simp)] at this
   rwa [hlen]
  have hd:(xs.drop j).length=s.len-j:=by rw [List.length_drop,hlen]
  have ht:(xs.take i).length=i:=by rw [List.length_take]; omega
  have key:=ZJy (e:=e) (bytes:=bytes) (s:=⟨s.a,i,s.cap⟩) (t:=⟨Zj s.a j s.cap z,s.len-j,s.cap⟩) o hm w0 r1 (o.get (i:=0) rfl) (by rw [ht,hd]; dsimp only; omega) ha0
   (K:=fun p1 k8 k9 h1=>ZAD k8 k9 (some (k8:Int)) (some (s.len:Int)) fun k10 k11=>ZDx cd zero (Zj p1 k10 k9 z) (k11-k10) h1 fun h2=>Q ⟨p1,k8,k9⟩ h2) fun d' h' o' w'=>?_
  ·exact key
  ·rw [ht,hd] at w' ⊢
   refine ⟨by omega,by omega,by dsimp only; omega,?_⟩
   have hl2:(xs.take i++xs.drop j).length=i+(s.len-j):=by rw [List.length_append,ht,hd]
   dsimp only
   refine ZF5 (s:=⟨s.a,i+(s.len-j),s.cap⟩) (xs:=xs.take i++xs.drop j) o' hm hn w' (k:=((i+(s.len-j):Nat):Int).toNat) (m:=(s.len:Int).toNat-((i+(s.len-j):Nat):Int).toNat) (by omega) (by dsimp only; omega) (by omega) hz fun c2 h2 o2 w2=>?_
   exact hq _ c2 h2 o2 w2
theorem ZD1 {P:Program} {f:FnV} {cc:List Hp} {φ:cd.T→Bool} (hf:Clo P cc f (fun x=>[cd.enc x]) cB φ) (o:On h l) (hcc:∀ p∈cc,p∈l) (hg:g∈l) (r:Row cd g t ys) (hm:cd.mem=true) {z:Nat} (hz:z=cd.n) (hl:ys.length≤1000000)
 {Q:Int→Hp→Prop} (hq:∀ h',On h' l→Q (ZOi (ys.findIdx? φ)) h'):
 Zg (0:Int) h fun J1 n1 h1=>ZB (decide (n1<(t.len:Int))) (Zi t.a t.len n1 fun a1=>ZC cd (a1.add (n1.toNat*z)) h1 fun x1=>ZBL P f.g f.first f.cap [cd.enc x1] cB h1 fun t1 h2=>ZB t1 (Q n1 h2) (J1 (IntKind.i64.wrap (n1+1)) h2)) (Q (-1) h1):=by
 have hlen:=r.1
 refine Zb (fun z h'=>∃ i:Nat,z=i∧i≤ys.length∧On h' l∧∀ x∈ys.take i,φ x=false) (fun z=>ys.length-z.toNat) ⟨0,rfl,Nat.zero_le _,o,fun x hx=>by cases hx⟩ ?_
 rintro J n h1 again ⟨i,rfl,hle,o1,hno⟩
 refine ZH (fun hlt=>?_) fun hge=>?_
 ·have hi:i<ys.length:=by omega
  have a0:ys[i]?=some ys[i]:=List.getElem?_eq_getElem hi
  refine ZM r (Int.natCast_nonneg i) (by omega) fun a ha=>ZO r (o1.mem hg) hm ha (i:=i) a0 (by simp [hz]) ?_
  refine hf ys[i] h1 l _ hcc o1 fun h2 o2=>?_
  refine ZD (fun e=>?_) fun e=>?_
  ·have e1:ys.findIdx? φ=some i:=List.findIdx?_eq_some_iff_getElem.2 ⟨hi,e,fun j hj=>by
    have:=hno ys[j] (List.mem_take_iff_getElem.2 ⟨j,by omega,rfl⟩)
    rw [this]; simp⟩
   have:=hq h2 o2
   rw [e1] at this
   exact this
  ·refine again _ _ ⟨i+1,ZAH (by omega),by omega,o2,?_⟩ (by rw [ZAH (by omega)]; omega)
   intro x hx
   rw [List.take_add_one,a0] at hx
   rcases List.mem_append.1 hx with hx|hx
   ·exact hno x hx
   ·simp at hx; subst hx; exact e
 ·have:i=ys.length:=by omega
  subst this
  rw [List.take_length] at hno
  have e1:ys.findIdx? φ=none:=List.findIdx?_eq_none_iff.2 hno
  have:=hq h1 o1
  rw [e1] at this
  exact this
theorem ZYn {a b:Nat} (ha:a≤1000000) (hb:b≤1000000):IntKind.i64.wrap (ZBM IntKind.u64 (IntKind.u64.wrap (IntKind.i64.wrap ((a:Int)+(b:Int)))) 1)=(((a+b) / 2:Nat):Int):=by
 rw [show IntKind.i64.wrap ((a:Int)+(b:Int))=(a:Int)+(b:Int) from w64 (by omega) (by omega)]
 have e1:IntKind.u64.wrap ((a:Int)+(b:Int))=((a+b:Nat):Int):=by
  simp [IntKind.wrap,IntKind.signed,IntKind.bits]; omega
 rw [e1]
 have e2:ZBM IntKind.u64 ((a+b:Nat):Int) 1=(((a+b) / 2:Nat):Int):=by
  show (((a+b:Nat):Int)).fdiv (2 ^ 1)=_
  rw [Int.fdiv_eq_ediv_of_nonneg _ (by decide)]
  omega
 rw [e2,w64 (by omega) (by omega)]
theorem ZEk {P:Program} {f:FnV} {cc:List Hp} {θ:cd.T→Int} {tv:Value} (hf:Clo P cc f (fun x=>[cd.enc x,tv]) (cI .i64) θ) (o:On h l) (hcc:∀ p∈cc,p∈l) (hg:g∈l) (r:Row cd g t ys) (hm:cd.mem=true) {z:Nat} (hz:z=cd.n) (hl:ys.length≤1000000)
 {Q:Int×Bool→Hp→Prop} (hq:∀ (i:Nat) h',i≤ys.length→(∀ k,(∀ x∈ys.take k,θ x<0)→(∀ x∈ys.drop k,0≤θ x)→k≤ys.length→i=k)→On h' l→Q ((i:Int),((ys[i]?).map fun x=>θ x==0).getD false) h'):
 Zg ((0:Int),(t.len:Int)) h fun J1 z1 h1=>ZB (decide (z1.1<z1.2))
  (ZX (fun z2 h2=>J1 (z2.1,z2.2) h2) fun (J2:Int×Int→Hp→Prop)=>0≤(1:Int)∧Zi t.a t.len (IntKind.i64.wrap (ZBM IntKind.u64 (IntKind.u64.wrap (IntKind.i64.wrap (z1.1+z1.2))) 1)) fun a1=>
    ZC cd (a1.add ((IntKind.i64.wrap (ZBM IntKind.u64 (IntKind.u64.wrap (IntKind.i64.wrap (z1.1+z1.2))) 1)).toNat*z)) h1 fun x1=>ZBL P f.g f.first f.cap [cd.enc x1,tv] (cI .i64) h1 fun (n1:Int) h3=>
     ZB (decide (n1<0)) (J2 (IntKind.i64.wrap (IntKind.i64.wrap (ZBM IntKind.u64 (IntKind.u64.wrap (IntKind.i64.wrap (z1.1+z1.2))) 1)+1),z1.2) h3) (J2 (z1.1,IntKind.i64.wrap (ZBM IntKind.u64 (IntKind.u64.wrap (IntKind.i64.wrap (z1.1+z1.2))) 1)) h3))
  (ZB (decide (z1.1<(t.len:Int))) (Zi t.a t.len z1.1 fun a2=>ZC cd (a2.add (z1.1.toNat*z)) h1 fun x2=>ZBL P f.g f.first f.cap [cd.enc x2,tv] (cI .i64) h1 fun (n2:Int) h4=>Q (z1.1,n2==0) h4) (Q (z1.1,false) h1)):=by
 have hlen:=r.1
 refine Zb (fun z h'=>∃ a b:Nat,z=((a:Int),(b:Int))∧a≤b∧b≤ys.length∧On h' l∧∀ k,(∀ x∈ys.take k,θ x<0)→(∀ x∈ys.drop k,0≤θ x)→k≤ys.length→a≤k∧k≤b) (fun z=>z.2.toNat-z.1.toNat)
  ⟨0,ys.length,by rw [hlen]; rfl,Nat.zero_le _,Nat.le_refl _,o,fun k _ _ hk=>⟨Nat.zero_le _,hk⟩⟩ ?_
 rintro J z1 h1 again ⟨a,b,rfl,hab,hb,o1,hk⟩
 dsimp only
 refine ZH (fun hlt=>?_) fun hge=>?_
 ·have hlt:a<b:=by omega
  have hmid:=ZYn (a:=a) (b:=b) (by omega) (by omega)
  generalize hM:(a+b) / 2=M at hmid
  rw [hmid]
  have hM1:a≤M:=by omega
  have hM2:M<b:=by omega
  refine ZN (fun z h'=>∃ a' b':Nat,z=((a':Int),(b':Int))∧a'≤b'∧b'≤ys.length∧On h' l∧(∀ k,(∀ x∈ys.take k,θ x<0)→(∀ x∈ys.drop k,0≤θ x)→k≤ys.length→a'≤k∧k≤b')∧b'-a'<b-a) ?_ fun J2 hJ2=>?_
  ·rintro z2 h2 ⟨a',b',rfl,h1',h2',o2,hk',hlt'⟩
   exact again _ _ ⟨a',b',rfl,h1',h2',o2,hk'⟩ (by dsimp only; omega)
  ·have hi:M<ys.length:=by omega
   have a0:ys[M]?=some ys[M]:=List.getElem?_eq_getElem hi
   refine ⟨by decide,?_⟩
   refine ZM r (Int.natCast_nonneg M) (by omega) fun p hp=>ZO r (o1.mem hg) hm hp (i:=M) a0 (by simp [hz]) ?_
   refine hf ys[M] h1 l _ hcc o1 fun h2 o2=>?_
   refine ZH (fun hneg=>?_) fun hnn=>?_
   ·rw [ZAH (by omega)]
    refine hJ2 _ _ ⟨M+1,b,rfl,by omega,hb,o2,fun k k1 k2 k3=>?_,by omega⟩
    have hkk:=hk k k1 k2 k3
    refine ⟨?_,hkk.2⟩
    rcases Nat.lt_or_ge M k with h'|h'
    ·exact h'
    ·exfalso
     have:=k2 ys[M] (List.mem_drop_iff_getElem.2 ⟨M-k,by omega,by congr 1; omega⟩)
     omega
   ·refine hJ2 _ _ ⟨a,M,rfl,hM1,by omega,o2,fun k k1 k2 k3=>?_,by omega⟩
    have hkk:=hk k k1 k2 k3
    refine ⟨hkk.1,?_⟩
    rcases Nat.lt_or_ge M k with h'|h'
    ·exfalso
     have:=k1 ys[M] (List.mem_take_iff_getElem.2 ⟨M,by omega,rfl⟩)
     omega
    ·exact h'
 ·have hab':a=b:=by omega
  subst hab'
  refine ZH (fun hlt=>?_) fun hge=>?_
  ·have hi:a<ys.length:=by omega
   have a0:ys[a]?=some ys[a]:=List.getElem?_eq_getElem hi
   refine ZM r (Int.natCast_nonneg a) (by omega) fun p hp=>ZO r (o1.mem hg) hm hp (i:=a) a0 (by simp [hz]) ?_
   refine hf ys[a] h1 l _ hcc o1 fun h2 o2=>?_
   have hq:=hq a h2 hb (fun k h2 h3 h4=>by have:=hk k h2 h3 h4; omega) o2
   rw [a0] at hq
   exact hq
  ·have hq:=hq a h1 hb (fun k h2 h3 h4=>by have:=hk k h2 h3 h4; omega) o1
   rw [List.getElem?_eq_none (by omega)] at hq
   exact hq
variable {cd cf:Cdc} {g h c:Hp} {s t:Sl} {xs ys:List cd.T} {l:List Hp}
theorem ZUy {z:cd.T} {e:TypeId} {bytes len cap cap0:Nat} {a:Option Addr} {n:Int} (o:On h l) (hg:g.sub h) (hy:Row cd g ⟨a,len,cap0⟩ ys) (h0:0≤n) (hcap:cap<len+n.toNat) (hroom:(len+n.toNat)*bytes≤ZAI)
 {K:Option Addr→Nat→Nat→Hp→Prop} (hK:∀ nb nc d h',On h' (d::l)→Own cd d ⟨some ⟨nb,0,none⟩,len,nc⟩ ys→len+n.toNat≤nc→K (some ⟨nb,0,none⟩) (len+n.toNat) nc h'):ZGw cd z e bytes a len cap n h K:=by
 refine ⟨h0,Nat.le_trans (Nat.mul_le_mul_right _ (Nat.le_add_left _ _)) hroom,fun hc=>by omega,fun _=>⟨hroom,?_⟩⟩
 refine ZCk (s:=⟨a,len,cap0⟩) hy hg ?_
 intro nc pad hnc hpad
 refine ZI (vs:=ZG cd ys++pad) o fun nb h' o'=>?_
 have hl:len=ys.length:=hy.1
 refine hK nb nc _ h' o' (ZBG (rest:=pad) rfl hl ?_) hnc
 rw [hpad,←hl,←Nat.add_mul,show len+(nc-len)=nc by omega]
theorem ZME {P:Program} {f:FnV} {cc:List Hp} {φ:cd.T→Bool} {z:Nat} {zero:cd.T} (hf:Clo P cc f (fun x=>[cd.enc x]) cB φ) (o:On h (c::l)) (hcc:∀ p∈cc,p∈l) (w:Own cd c s xs) (hm:cd.mem=true) (hn:0<cd.n) (hz:z=cd.n) (hl:xs.length≤1000000)
 {Q:Sl→Hp→Prop} (hq:∀ s' c' h',On h' (c'::l)→Own cd c' s' (xs.filter fun x=>!φ x)→Q s' h'):
 ZB (ZOi (xs.findIdx? φ)==-1) (Q s h) (Zg (ZOi (xs.findIdx? φ),IntKind.i64.wrap (ZOi (xs.findIdx? φ)+1)) h fun (J1:Int×Int→Hp→Prop) z1 h2=>ZB (decide (z1.2<(s.len:Int)))
  (ZX (fun (n2:Int) h3=>J1 (n2,IntKind.i64.wrap (z1.2+1)) h3) fun J2=>Zi s.a s.len z1.2 fun a1=>ZC cd (a1.add (z1.2.toNat*z)) h2 fun x1=>ZBL P f.g f.first f.cap [cd.enc x1] cB h2 fun t1 h4=>
    ZB (!t1) (Zi s.a s.len z1.1 fun a2=>ZU cd (a2.add (z1.1.toNat*z)) x1 h4 fun h5=>J2 (IntKind.i64.wrap (z1.1+1)) h5) (J2 z1.1 h4))
  (ZAD s.len s.cap (some z1.1) none fun k1 k2=>ZDx cd zero (Zj s.a k1 s.cap z) (k2-k1) h2 fun h6=>ZAD s.len s.cap none (some z1.1) fun k3 k4=>Q ⟨Zj s.a k3 s.cap z,k4-k3,s.cap-k3⟩ h6)):=by
 have hlen:s.len=xs.length:=w.1
 have hcap:=w.le_cap hn
 cases hi:xs.findIdx? φ with
 | none=>
   have hall:=List.findIdx?_eq_none_iff.1 hi
   have e:(xs.filter fun x=>!φ x)=xs:=List.filter_eq_self.2 fun x hx=>by rw [hall x hx]; rfl
   rw [e] at hq
   exact Zd rfl (hq s c h o w)
 | some i=>
   obtain ⟨hi1,hi2,hi3⟩:=List.findIdx?_eq_some_iff_getElem.1 hi
   show ZB ((i:Int)==-1) _ (Zg ((i:Int),IntKind.i64.wrap ((i:Int)+1)) h _)
   rw [ZAH (by omega)]
   refine ZQ (by simp) ?_
   have hpre:(xs.take i).filter (fun x=>!φ x)=xs.take i:=List.filter_eq_self.2 fun x hx=>by
    obtain ⟨j,hj,rfl⟩:=List.mem_take_iff_getElem.1 hx
    have:=hi3 j (by omega)
    simpa using this
   refine Zb (fun z h'=>∃ (a j:Nat) (ys:List cd.T) (c':Hp),z=((a:Int),(j:Int))∧a<j∧j≤xs.length∧On h' (c'::l)∧Own cd c' s ys∧ys.take a=(xs.take j).filter (fun x=>!φ x)∧ys.drop j=xs.drop j∧ys.length=xs.length) (fun z=>xs.length-z.2.toNat)
    ⟨i,i+1,xs,c,rfl,by omega,by omega,o,w,?_,rfl,rfl⟩ ?_
   ·rw [List.take_add_one,List.getElem?_eq_getElem hi1,List.filter_append,hpre]
    simp [hi2]
   rintro J1 z1 h2 again ⟨a,j,ys,c',rfl,haj,hj,o2,w2,ht,hd,hyl⟩
   dsimp only
   refine ZH (fun hlt=>?_) fun hge=>?_
   ·have hj':j<xs.length:=by omega
    have hjy:ys[j]?=some xs[j]:=by
     have:=congrArg (fun l=>l[0]?) hd
     simpa [List.getElem?_drop,hj'] using this
    refine ZN (fun n h'=>∃ (a':Nat) (ys':List cd.T) (c2:Hp),n=(a':Int)∧a'<j+1∧On h' (c2::l)∧Own cd c2 s ys'∧ys'.take a'=(xs.take (j+1)).filter (fun x=>!φ x)∧ys'.drop (j+1)=xs.drop (j+1)∧ys'.length=xs.length) ?_ fun J2 hJ2=>?_
    ·rintro n h3 ⟨a',ys',c2,rfl,h31,o3,w3,t3,d3,l3⟩
     rw [ZAH (by omega)]
     exact again _ _ ⟨a',j+1,ys',c2,rfl,h31,by omega,o3,w3,t3,d3,l3⟩ (by dsimp only; omega)
    ·refine ZM w2.row (Int.natCast_nonneg j) (by omega) fun p hp=>ZO w2.row (o2.mem (by simp)) hm hp (i:=j) hjy (by simp [hz]) ?_
     refine hf xs[j] h2 (c'::l) _ (fun p hp=>by simp [hcc p hp]) o2 fun h4 o4=>?_
     have hstep:(xs.take (j+1)).filter (fun x=>!φ x)=(xs.take j).filter (fun x=>!φ x)++if φ xs[j]=true then [] else [xs[j]]:=by
      rw [List.take_add_one,List.getElem?_eq_getElem hj',List.filter_append]
      cases hφ:φ xs[j]<;>simp [hφ]
     have hd1:ys.drop (j+1)=xs.drop (j+1):=by rw [←List.drop_drop,hd,List.drop_drop]
     refine ZD (fun e=>?_) fun e=>?_
     ·have e:φ xs[j]=false:=by simpa using e
      refine ZM w2.row (Int.natCast_nonneg a) (by omega) fun p hp=>?_
      refine ZB4 o4 hm w2 hp (i:=a) (by omega) (by simp [hz]) fun c5 h5 o5 w5=>?_
      rw [ZAH (by omega)]
      refine hJ2 _ _ ⟨a+1,ys.set a xs[j],c5,rfl,by omega,o5,w5,?_,?_,by simp [hyl]⟩
      ·rw [hstep,e,List.take_add_one]
       simp only [List.getElem?_set_self (show a<ys.length by omega)]
       rw [List.take_set_of_le (Nat.le_refl a),ht]
       simp
      ·rw [List.drop_set_of_lt (by omega)]; exact hd1
     ·have e:φ xs[j]=true:=by simpa using e
      refine hJ2 _ _ ⟨a,ys,c',rfl,by omega,o4,w2,?_,hd1,hyl⟩
      rw [hstep,e,ht]; simp
   ·have hjl:j=xs.length:=by omega
    subst hjl
    rw [List.take_length] at ht
    refine ⟨by omega,by omega,?_⟩
    rw [Int.toNat_natCast]
    have w3:=w2.head hm (k:=a) (by omega)
    rw [ht] at w3
    have ha:(xs.filter fun x=>!φ x).length=a:=by rw [←ht,List.length_take]; omega
    refine ZF5 (s:=⟨s.a,a,s.cap⟩) o2 hm hn w3 (k:=a) (m:=s.len-a) (by omega) (by dsimp only; omega) (by omega) hz fun c6 h6 o6 w6=>?_
    refine ⟨by omega,by omega,?_⟩
    rw [Int.toNat_natCast]
    dsimp only
    rw [Nat.sub_zero,Nat.sub_zero,ZIB]
    exact hq _ c6 h6 o6 w6
open Go.Sort Go.Proofs
theorem ZHg {α:Type} {k:Nat} (enc:α→List Value) (hk:∀ x,(enc x).length=k):∀ l:List α,(l.flatMap enc).length=l.length*k
 | []=>by simp
 | x::l=>by rw [List.flatMap_cons,List.length_append,hk,ZHg enc hk l,List.length_cons,Nat.succ_mul,Nat.add_comm]
section
variable {α:Type} [Inhabited α]
theorem ZGp {k:Nat} (enc:α→List Value) (hk:∀ x,(enc x).length=k):∀ (l:List α) (t:Nat),t<l.length*k→(l.flatMap enc)[t]?=(enc l[t / k]!)[t % k]?
 | [],t,h=>by simp at h
 | x::l,t,h=>by
   rw [List.flatMap_cons]
   by_cases ht:t<k
   ·rw [List.getElem?_append_left (by rw [hk]; exact ht),Nat.div_eq_of_lt ht,Nat.mod_eq_of_lt ht]; rfl
   ·rw [List.getElem?_append_right (by rw [hk]; omega),hk]
    have k0:0<k:=by
     rcases Nat.eq_zero_or_pos k with e|e
     ·subst e; simp at h
     ·exact e
    have h2:=ZGp enc hk l (t-k) (by rw [List.length_cons,Nat.succ_mul] at h; omega)
    have e1:t / k=(t-k) / k+1:=Nat.div_eq_sub_div k0 (by omega)
    have e2:t % k=(t-k) % k:=Nat.mod_eq_sub_mod (by omega)
    rw [h2,e1,e2]
    rfl
theorem ZHQ {k:Nat} (enc:α→List Value) (hk:∀ x,(enc x).length=k) (d:Array α):(flatK enc k d).toList=d.toList.flatMap enc:=by
 apply List.ext_getElem?
 intro t
 by_cases ht:t<d.size*k
 ·rw [ZGp enc hk d.toList t (by simpa using ht)]
  have h1:=get_flatK enc k d t ht
  have hs:t<(flatK enc k d).size:=by rw [size_flatK]; exact ht
  have k0:0<k:=by
   rcases Nat.eq_zero_or_pos k with e|e
   ·subst e; simp at ht
   ·exact e
  have hm:t % k<(enc d.toList[t / k]!).length:=by rw [hk]; exact Nat.mod_lt _ k0
  rw [List.getElem?_eq_getElem hm,Array.getElem?_toList,Array.getElem?_eq_getElem hs]
  rw [getElem!_pos _ t hs] at h1
  rw [h1]
  have hq:t / k<d.size:=Nat.div_lt_of_lt_mul (by rw [Nat.mul_comm]; exact ht)
  have e:d.toList[t / k]! = d[t / k]! := by
   rw [getElem!_pos d.toList (t / k) (by simpa using hq),getElem!_pos d (t / k) hq]
   exact Array.getElem_toList _
  congr 1
  rw [getElem!_pos _ _ (by rw [hk]; exact Nat.mod_lt _ k0)]
  simp only [e]
 ·rw [List.getElem?_eq_none (by rw [Array.length_toList,size_flatK]; omega),List.getElem?_eq_none (by rw [ZHg enc hk]; simpa using ht)]
theorem ZU4 {w:World} {blk off:Nat} {F:Array Value} {pre tail:List Value} {e:TypeId} {fz:Nat×Nat} (hb:w.heap[blk]?=some (.cells (pre++(F.toList++tail)).toArray e fz)) (hp:pre.length=off) (hf:∀ j,off≤j→j<off+F.size→¬(fz.1≤j∧j<fz.2)):Holds id w blk off F:=by
 intro j hj
 have hg:(pre++(F.toList++tail))[off+j]?=some F[j]! := by
  rw [List.getElem?_append_right (by omega),hp,Nat.add_sub_cancel_left,List.getElem?_append_left (by simpa using hj),Array.getElem?_toList,Array.getElem?_eq_getElem hj,getElem!_pos _ j hj]
 refine ⟨?_,?_⟩
 ·unfold World.cell?
  simp only [hb]
  simpa using hg
 ·unfold World.frozen?
  simp only [hb]
  have:=hf (off+j) (by omega) (by omega)
  simpa using this
theorem ZXl {off:Nat} {F F':Array Value} {pre tail:List Value} (hp:pre.length=off) (hs:F'.size=F.size):putCells id off F' (pre++(F.toList++tail)).toArray=(pre++(F'.toList++tail)).toArray:=by
 apply Array.ext_getElem?
 intro j
 unfold putCells
 rw [Array.getElem?_mapIdx]
 simp only [List.getElem?_toArray]
 by_cases h1:j<off
 ·have e:∀ X:List Value,(pre++(X++tail))[j]?=pre[j]?:=fun X=>List.getElem?_append_left (by omega)
  rw [e,e,List.getElem?_eq_getElem (by omega)]
  simp only [Option.map_some]
  rw [if_neg (by omega)]
 ·have e:∀ X:List Value,(pre++(X++tail))[j]?=(X++tail)[j-off]?:=fun X=>by rw [List.getElem?_append_right (by omega),hp]
  rw [e,e]
  by_cases h2:j<off+F.size
  ·have a1:j-off<F.size:=by omega
   have a2:j-off<F'.size:=by omega
   have e1:(F.toList++tail)[j-off]?=F[j-off]?:=by rw [List.getElem?_append_left (by simpa using a1),Array.getElem?_toList]
   have e2:(F'.toList++tail)[j-off]?=F'[j-off]?:=by rw [List.getElem?_append_left (by simpa using a2),Array.getElem?_toList]
   rw [e1,e2,Array.getElem?_eq_getElem a1,Array.getElem?_eq_getElem a2]
   simp only [Option.map_some,id_eq]
   rw [if_pos ⟨by omega,by omega⟩,getElem!_pos F' (j-off) a2]
  ·have e1:(F.toList++tail)[j-off]?=tail[j-off-F.size]?:=by rw [List.getElem?_append_right (by rw [Array.length_toList]; omega),Array.length_toList]
   have e2:(F'.toList++tail)[j-off]?=tail[j-off-F.size]?:=by rw [List.getElem?_append_right (by rw [Array.length_toList]; omega),Array.length_toList,hs]
   rw [e1,e2]
   cases tail[j-off-F.size]? with
   | none=>rfl
   | some v=>
     simp only [Option.map_some]
     rw [if_neg (by omega)]
theorem ZRv {P:Program} {f:FuncId} {args:List Value} {k:Nat} {enc:α→List Value} {d:Array α} {Good:Array α→Prop} {blk off:Nat} {c h:Hp} {l:List Hp} {pre tail:List Value} {e:TypeId} {fz:Nat×Nat} (hk:∀ x,(enc x).length=k)
 (o:On h (c::l)) (hb:c blk=some (.cells (pre++(d.toList.flatMap enc++tail)).toArray e fz)) (hp:pre.length=off) (hf:∀ j,off≤j→j<off+d.size*k→¬(fz.1≤j∧j<fz.2))
 (H:∀ w:World,Go.Sort.HoldsK enc k w blk off d→blk<w.heap.size→Calls P f args.toArray w fun e w'=>e=.returned (.tuple #[])∧∃ d' n os,Good d'∧d'.size=d.size∧w'=Go.Proofs.sortWorldK enc k w blk off n d' os)
 {Q:Unit→Hp→Prop} (hq:∀ d' c' h',On h' (c'::l)→c' blk=some (.cells (pre++(d'.toList.flatMap enc++tail)).toArray e fz)→Good d'→d'.size=d.size→Q () h'):ZA P f args (ZW []) h Q:=by
 intro w fr hw hfr hdj
 have hcb:=o.mem (by simp) blk _ hb
 have hwb:=hw blk _ hcb
 have hlt:blk<w.heap.size:=(Array.getElem?_eq_some_iff.1 hwb).1
 have hH:HoldsK enc k w blk off d:=by
  refine ZU4 (pre:=pre) (tail:=tail) (e:=e) (fz:=fz) ?_ hp ?_
  ·rw [ZHQ enc hk]; exact hwb
  ·rw [size_flatK]; exact hf
 refine (H w hH hlt).mono ?_
 rintro ex w' ⟨rfl,d',n,os,hg,hsz,rfl⟩
 have hat:∀ b,b<w.heap.size→b≠blk→(sortWorldK enc k w blk off n d' os).heap[b]?=w.heap[b]?:=by
  intro b hbl hne
  unfold sortWorldK putRowK putRow mapBlock grow
  show ((w.heap.modify blk _)++os)[b]?=_
  rw [Array.getElem?_append_left (by rw [Array.size_modify]; exact hbl),Array.getElem?_modify,if_neg (fun e=>hne e.symm)]
 have hself:(sortWorldK enc k w blk off n d' os).heap[blk]?=some (.cells (pre++(d'.toList.flatMap enc++tail)).toArray e fz):=by
  unfold sortWorldK putRowK putRow mapBlock grow
  show ((w.heap.modify blk _)++os)[blk]?=_
  rw [Array.getElem?_append_left (by rw [Array.size_modify]; exact hlt),Array.getElem?_modify,if_pos rfl,hwb]
  simp only [Option.map_some,onCells]
  rw [←ZHQ enc hk d,ZXl hp (by rw [size_flatK,size_flatK,hsz]),ZHQ enc hk d']
 refine ⟨_,h.upd blk (.cells (pre++(d'.toList.flatMap enc++tail)).toArray e fz),rfl,⟨(),rfl,hq d' _ _ (o.upd hb _) (by simp [Hp.upd]) hg hsz⟩,?_,?_,?_,⟨rfl,rfl,rfl⟩⟩
 ·intro b o' ho
  unfold Hp.upd at ho
  by_cases hbb:b=blk
  ·subst hbb
   rw [if_pos rfl] at ho
   cases ho
   exact hself
  ·rw [if_neg hbb] at ho
   have h1:=hw b o' ho
   rw [hat b (Array.getElem?_eq_some_iff.1 h1).1 hbb]
   exact h1
 ·intro b o' ho
  have hbb:b≠blk:=by
   rintro rfl
   rcases hdj b with e1|e1
   ·rw [hcb] at e1; cases e1
   ·rw [e1] at ho; cases ho
  have h1:=hfr b o' ho
  rw [hat b (Array.getElem?_eq_some_iff.1 h1).1 hbb]
  exact h1
 ·intro b
  unfold Hp.upd
  by_cases hbb:b=blk
  ·subst hbb
   rcases hdj b with e1|e1
   ·rw [hcb] at e1; cases e1
   ·exact .inr e1
  ·rw [if_neg hbb]
   exact hdj b
end
def ZEe (P:Program):Nat→List FuncId→List FuncId→Option (List FuncId)
 | _,[],seen=>some seen.reverse
 | 0,_::_,_=>none
 | n+1,f::todo,seen=>
   if seen.contains f then ZEe P n todo seen
   else ZEe P n ((P.funcs[f]?).elim [] P.leadsTo++todo) (f::seen)
theorem ZFj {P:Program}:∀ (n:Nat) (todo seen:List FuncId) (L:List FuncId),ZEe P n todo seen=some L→∀ m,n≤m→P.closureVia m todo seen=L
 | 0,[],seen,L,h,m,_=>by
   have h:some seen.reverse=some L:=h
   cases h
   cases m<;>rfl
 | 0,_::_,_,_,h,_,_=>by cases h
 | n+1,[],seen,L,h,m,_=>by
   have h:some seen.reverse=some L:=h
   cases h
   cases m<;>rfl
 | n+1,f::todo,seen,L,h,m,hm=>by
   obtain ⟨m,rfl⟩:∃ k,m=k+1:=⟨m-1,by omega⟩
   unfold ZEe at h
   unfold Program.closureVia
   by_cases hc:seen.contains f=true
   ·rw [if_pos hc] at h ⊢
    exact ZFj n _ _ L h m (by omega)
   ·rw [if_neg hc] at h ⊢
    exact ZFj n _ _ L h m (by omega)
theorem ZIC {P:Program} {n:Nat} {f:FuncId} {L:List FuncId} (h:ZEe P n [f] []=some L) (hn:n≤1+(P.funcs.toList.map fun g=>(P.leadsTo g).length+1).sum):P.closure f=L:=by
 unfold Program.closure
 exact ZFj n _ _ L h _ hn
def ZU9 (P:Program) (n:Nat) (f:FuncId) (L:List FuncId) (c:OpenClaim):Bool:=
 Nat.ble n (1+(P.funcs.toList.map fun g=>(P.leadsTo g).length+1).sum)&&(ZEe P n [f] []==some L)&&
 (L.all fun g=>((P.funcs[g]?).elim [] P.leadsTo).all fun h=>(ZEe P n [h] []).isSome)&&
 (c.inPlace==L.filterMap fun g=>(P.funcs[g]?).bind fun fn=>if fn.ours||fn.body.isNone||fn.name == "runtime.NumGoroutine" then some fn.name else none)&&
 (c.unfollowed==L.any fun g=>(P.funcs[g]?).any fun fn=>match fn.body with|some c=>c.unfollowed|none=>entryCalls fn)&&
 (c.recurses==((L.any fun g=>(P.funcs[g]?).any fun fn=>match fn.body with|some c=>c.unfollowed|none=>entryCalls fn)||L.any fun g=>((P.funcs[g]?).elim [] P.leadsTo).any fun h=>((ZEe P n [h] []).getD []).contains g))&&
 (c.named==(((L.flatMap fun g=>((P.funcs[g]?).bind (·.body)).elim [] Code.globalsNamed).eraseDups).filterMap (fun g=>(P.globals[g]?).map (·.name))++
   L.filterMap fun g=>(P.funcs[g]?).bind fun fn=>if fn.body.isNone then entryReads.lookup fn.name else none).eraseDups)
def ZJO (ws:List (List Nat)):List (List Char):=behindMainWord (ws.map fun w=>w.map Char.ofNat)
theorem ZUM {P:Program} {cs:List Nat} {ws:List (List Nat)} (h:P.initOrder=String.ofList (cs.map Char.ofNat)) (hw:wordsSigns (cs.map Char.ofNat)=ws.map fun w=>w.map Char.ofNat):behindMainWord (wordsSigns P.initOrder.toList)=ZJO ws:=by
 rw [h,String.toList_ofList,hw]; rfl
def ZKP (P:Program) (W:List (List Char)):Bool:=
 match W with
 | c::rest=>
   ((c == "gc".toList||c == "spec".toList)&&(rest.isEmpty||rest.head?==some "stop".toList))||
   (c == "carried".toList&&rest.take 2==["gc".toList,"cut".toList]&&!P.laysLater&&!P.bearsReflect)||
   ((stripLifts liftWords (c::rest)).2.head?==some "cut".toList&&
     ((stripLifts liftWords (c::rest)).1.contains "finals" || !P.laysLater)&&((stripLifts liftWords (c::rest)).1.contains "reflectrows" || !P.bearsReflect)&&
     ((stripLifts liftWords (c::rest)).1.contains "reflectrows" || !(stripLifts liftWords (c::rest)).1.contains "leanrows")&&
     P.doorFits (stripLifts liftWords (c::rest)).1)
 | []=>false
def ZGC (W:List (List Char)):List String:=
 let r:=stripLifts liftWords W
 if r.2.head?==some "cut".toList then r.1 else []
def ZHX (W:List (List Char)):Bool:=
 (W.head?==some "carried".toList&&W.take 3 != ["carried".toList,"gc".toList,"cut".toList])||(ZGC W).contains "finals"
def ZX5 (W:List (List Char)):Option Make:=
 match W with
 | c::rest=>if c == "gc".toList||c == "spec".toList then some .whole else if c == "cut".toList||(c == "finals".toList&&rest.head?==some "cut".toList) then some .cut else if c == "carried".toList then some .carried else if (ZGC W).isEmpty then none else some (.lifted (ZGC W))
 | []=>none
theorem ZMN {P:Program} {W:List (List Char)} (h:behindMainWord (wordsSigns P.initOrder.toList)=W) (m:ZKP P W=true):P.mayEnter=true:=by
 unfold Program.mayEnter; rw [h]; exact m
theorem ZJM {P:Program} {W:List (List Char)} (h:behindMainWord (wordsSigns P.initOrder.toList)=W):P.liftsFinal=ZHX W:=by
 unfold Program.liftsFinal Program.headLifts; rw [h]; rfl
theorem ZW2 {P:Program} {W:List (List Char)} (h:behindMainWord (wordsSigns P.initOrder.toList)=W):P.make=ZX5 W:=by
 unfold Program.make Program.headLifts; rw [h]; rfl
def ZRw (P:Program) (fn:Func) (s:ChangeSpec) (c:OpenClaim):Bool:=
 c.wf (OpenSpec.ofChange s)
def ZRI (P:Program) (fn:Func) (s:ChangeSpec) (c:OpenClaim):Bool:=
 laidOutB P
def ZQp (P:Program) (fn:Func) (s:ChangeSpec) (c:OpenClaim):Bool:=
 mapsRowed P
def ZQD (P:Program) (fn:Func) (s:ChangeSpec) (c:OpenClaim):Bool:=
 fn.params.all (P.readableRec ·)&&namedTie P c.named s.vars&&(c.stops==[])&&(P.stops==[])&&(c.knobs==[])&&(P.stopKnobs==[])
def ZQO (P:Program) (fn:Func) (s:ChangeSpec) (c:OpenClaim):Bool:=
 (c.maps==(fn.params.toList++s.plain.varTypes P).any (P.mapsRec ·))&&(c.ifaces==(fn.params.toList++s.plain.varTypes P).any (P.ifacesRec ·))&&(c.mapsOut==P.mapsAmong fn.resultTypes.toList)
def ZSi (P:Program) (fn:Func) (s:ChangeSpec) (c:OpenClaim):Bool:=
 (c.loops==(fn.params.toList++s.plain.varTypes P).any (P.loopsFrom ·))
def ZRM (P:Program) (fn:Func) (s:ChangeSpec) (c:OpenClaim):Bool:=
 (c.wideKeys==(fn.params.toList++s.plain.varTypes P++fn.resultTypes.toList).any (P.wideKeysFrom ·))&&s.vars.all (P.varReadable ·)&&fn.resultTypes.all (fun t=>P.readableRec t&&decide (t<P.types.size))&&(c.ifacesOut==fn.resultTypes.toList.any (P.ifacesRec ·))
def ZRY (P:Program) (fn:Func) (s:ChangeSpec) (c:OpenClaim):Bool:=
 (c.loopsOut==fn.resultTypes.toList.any (P.loopsFrom ·))
def ZQV (P:Program) (fn:Func) (s:ChangeSpec) (c:OpenClaim):Bool:=
 (c.plainKeys==P.plainKeys)
def ZNi (P:Program) (fn:Func) (s:ChangeSpec) (c:OpenClaim):Bool:=
 c.shortTexts.isNone&&P.stopsHeard
def ZTM (P:Program) (W:List (List Char)):Bool:=
 ZKP P W
def ZNG (c:OpenClaim) (W:List (List Char)):Bool:=
 (c.lifted==ZHX W)
def ZM6 (fn:Func) (P:Program) (c:OpenClaim) (W:List (List Char)):Bool:=
 (ZX5 W==some c.make)&&(c.kinds==(if c.domain.isEmpty then [] else fn.params.toList.map fun t=>match P.underlying t with|some (.int k)=>some k|_=>none))&&(c.pinned==c.pinnedBy)
def ZNu (P:Program) (fn:Func) (s:ChangeSpec) (c:OpenClaim):Bool:=
 (c.veiled==(fn.params.toList++s.plain.varTypes P++fn.resultTypes.toList).any (P.veiledRec ·))
def ZNK (P:Program) (fn:Func) (s:ChangeSpec) (c:OpenClaim):Bool:=
 c.veiledFits P fn.params.toList (fn.params.toList++s.plain.varTypes P++fn.resultTypes.toList)
theorem ZX8 {P:Program} {f:FuncId} {fn:Func} {s:ChangeSpec} {c:OpenClaim} {cs:List Nat} {ws:List (List Nat)} (n:Nat) (L:List FuncId) (hi:P.initOrder=String.ofList (cs.map Char.ofNat)) (hw:wordsSigns (cs.map Char.ofNat)=ws.map fun w=>w.map Char.ofNat) (h1:ZU9 P n f L c=true) (o1:ZRw P fn s c=true) (o2:ZRI P fn s c=true) (o3:ZQp P fn s c=true) (o4:ZQD P fn s c=true) (o5:ZQO P fn s c=true) (o6:ZSi P fn s c=true) (o7:ZRM P fn s c=true) (o8:ZRY P fn s c=true) (o9:ZQV P fn s c=true) (o10:ZNi P fn s c=true) (o11:ZTM P (ZJO ws)=true) (o12:ZNG c (ZJO ws)=true) (o13:ZM6 fn P c (ZJO ws)=true) (o14:ZNu P fn s c=true) (o15:ZNK P fn s c=true):joinedFacts P f fn s c=true:=by
 unfold ZU9 at h1
 simp only [Bool.and_eq_true] at h1
 obtain ⟨⟨⟨⟨⟨⟨a1,a2⟩,a3⟩,a4⟩,a5⟩,a6⟩,a7⟩:=h1
 have hn:=Nat.le_of_ble_eq_true a1
 have hL:P.closure f=L:=ZIC (by simpa using a2) hn
 have hh:∀ g∈L,∀ h∈(P.funcs[g]?).elim [] P.leadsTo,P.closure h=(ZEe P n [h] []).getD []:=by
  intro g hg h hh
  have:=List.all_eq_true.1 (List.all_eq_true.1 a3 g hg) h hh
  obtain ⟨M,hM⟩:=Option.isSome_iff_exists.1 this
  rw [hM]; exact ZIC hM hn
 have b4:(c.inPlace==P.inPlace f)=true:=by unfold Program.inPlace; rw [hL]; exact a4
 have b5:(c.unfollowed==P.unfollowed f)=true:=by unfold Program.unfollowed; rw [hL]; exact a5
 have b6:(c.recurses==P.recurses f)=true:=by
  unfold Program.recurses Program.unfollowed
  rw [hL]
  have e:(L.any fun g=>((P.funcs[g]?).elim [] P.leadsTo).any fun h=>(P.closure h).contains g)=L.any fun g=>((P.funcs[g]?).elim [] P.leadsTo).any fun h=>((ZEe P n [h] []).getD []).contains g:=by
   rw [Bool.eq_iff_iff,List.any_eq_true,List.any_eq_true]
   constructor
   ·rintro ⟨g,hg,h⟩
    rw [List.any_eq_true] at h
    obtain ⟨x,hx,hxc⟩:=h
    exact ⟨g,hg,List.any_eq_true.2 ⟨x,hx,by rw [←hh g hg x hx]; exact hxc⟩⟩
   ·rintro ⟨g,hg,h⟩
    rw [List.any_eq_true] at h
    obtain ⟨x,hx,hxc⟩:=h
    exact ⟨g,hg,List.any_eq_true.2 ⟨x,hx,by rw [hh g hg x hx]; exact hxc⟩⟩
  rw [e]; exact a6
 have b7:(c.named==P.varsNamed f)=true:=by unfold Program.varsNamed; rw [hL]; exact a7
 unfold ZRw at o1
 have k1:=o1
 unfold ZRI at o2
 have k2:=o2
 unfold ZQp at o3
 have k3:=o3
 unfold ZQD at o4
 simp only [Bool.and_eq_true] at o4
 obtain ⟨⟨⟨⟨⟨k4,k5⟩,k6⟩,k7⟩,k8⟩,k9⟩:=o4
 unfold ZQO at o5
 simp only [Bool.and_eq_true] at o5
 obtain ⟨⟨k14,k15⟩,k16⟩:=o5
 unfold ZSi at o6
 have k17:=o6
 unfold ZRM at o7
 simp only [Bool.and_eq_true] at o7
 obtain ⟨⟨⟨k17b,k18⟩,k19⟩,k20⟩:=o7
 unfold ZRY at o8
 have k21:=o8
 unfold ZQV at o9
 have k22:=o9
 unfold ZNi at o10
 simp only [Bool.and_eq_true] at o10
 obtain ⟨k23,k23b⟩:=o10
 have hW:=ZUM hi hw
 have k24:=ZMN hW o11
 unfold ZNG at o12
 rw [←ZJM hW] at o12
 have k24b:=o12
 unfold ZM6 at o13
 rw [←ZW2 hW] at o13
 simp only [Bool.and_eq_true] at o13
 obtain ⟨⟨k24c,k25⟩,k26⟩:=o13
 unfold ZNu at o14
 have k27:=o14
 unfold ZNK at o15
 have k28:=o15
 unfold joinedFacts
 simp only [Bool.and_eq_true]
 exact ⟨⟨⟨⟨⟨⟨⟨⟨⟨⟨⟨⟨⟨⟨⟨⟨⟨⟨⟨⟨⟨⟨⟨⟨⟨⟨⟨⟨⟨⟨⟨k1,k2⟩,k3⟩,k4⟩,k5⟩,k6⟩,k7⟩,k8⟩,k9⟩,b4⟩,b5⟩,b6⟩,b7⟩,k14⟩,k15⟩,k16⟩,k17⟩,k17b⟩,k18⟩,k19⟩,k20⟩,k21⟩,k22⟩,k23⟩,k23b⟩,k24⟩,k24b⟩,k24c⟩,k25⟩,k26⟩,k27⟩,k28⟩
end Go.Eng
