/- Made by program: of our texts what this law needs (TopB TopSP TopSL TopSC TopS TopC TopD TopE TopF TopG TopH TopI TopJ TopK TopL TopM TopN TopO ModB TopP TopQ ModC TopR TopT TopU). -/
import Derived.Test.YtkmniidiifpdgaaGreatP03
import Derived.Test.YtkmniidiifpdgaaGreatChecked
import Derived.Shelf.SlSortCmp.NoneTotal
import Derived.Lib.Overlaps
import Derived.Laws.Externs
set_option linter.unusedVariables false
namespace Go.Proofs.YtkmniidiifpdgaaGreat
open Go.Eng
theorem ZC1 {s:Int} {h:Hp} {Q:Bool→Hp→Prop} (hq:Q (ZBK s) h):ZA TP 218 [Value.int .i64 s] cB h Q:=by
 refine c218 ?_
 unfold F218
 unfold ZBK at hq
 exact ZD (fun e=>by rwa [e,Bool.true_or] at hq) fun e=>by rwa [e,Bool.false_or] at hq
theorem ZHJ {s:Int}:ZBK s=true↔s=1∨s=2:=by simp [ZBK]
theorem ZJc {s:Int} {h:Hp} {Q:Int→Hp→Prop} (hq:Q (ZBq s) h):ZA TP 330 [Value.int .i64 s] (cI .i64) h Q:=by
 refine c330 ?_
 unfold F330
 refine ZC1 (ZD (fun e=>?_) fun e=>?_)
 ·have e:ZBK s=false:=by simpa using e
  unfold ZBq at hq
  rwa [e] at hq
 ·have e:ZBK s=true:=by simpa using e
  unfold ZBq at hq
  rw [if_pos e] at hq
  rw [w64 (by rcases ZHJ.1 e with h|h<;>omega) (by rcases ZHJ.1 e with h|h<;>omega)]
  exact hq
theorem ZJq {s a b:Int} {h:Hp} {Q:Bool→Hp→Prop} (hq:Q (ZAC s a b) h):ZA TP 102 [Value.int .i64 s,Value.int .i64 a,Value.int .i64 b] cB h Q:=by
 refine c102 ?_
 unfold F102
 unfold ZAC at hq
 refine ZD (fun e1=>?_) fun e1=>?_
 ·refine ZD (fun e2=>?_) fun e2=>?_
  ·rw [e1,e2] at hq; exact hq
  ·rw [e1,e2] at hq
   refine ZD (fun e3=>?_) fun e3=>?_
   ·rw [e3] at hq; simpa using hq
   ·rw [e3] at hq; simpa using hq
 ·rw [e1] at hq
  refine ZD (fun e3=>?_) fun e3=>?_
  ·rw [e3] at hq; simpa using hq
  ·rw [e3] at hq; simpa using hq
theorem ZSD {s a b:Int} {h:Hp} {Q:Bool→Hp→Prop} (hq:Q (ZKC s a b) h):ZA TP 382 [Value.int .i64 s,Value.int .i64 a,Value.int .i64 b] cB h Q:=by
 refine c382 ?_
 unfold F382
 unfold ZKC at hq
 refine ZC1 (ZD (fun e=>?_) fun e=>?_)
 ·refine ZJq ?_
  rw [e] at hq; simpa using hq
 ·rw [e] at hq; simpa using hq
theorem ZMC {n a b:Int} {h:Hp} {Q:Bool→Hp→Prop} (hq:Q (decide (a≤n∧n≤b)) h):ZB (decide (n≥a)) (Q (decide (n≤b)) h) (Q false h):=by
 refine ZH (fun e=>?_) fun e=>?_
 ·rwa [show decide (a≤n∧n≤b)=decide (n≤b) from decide_eq_decide.2 (by omega)] at hq
 ·rwa [decide_eq_false (by omega)] at hq
theorem ZWU {n a b:Int} {h:Hp} {Q:Bool→Hp→Prop} (hq:Q (decide (a≤n∧n≤b)) h):ZA TP 195 [Value.int .i64 n,Value.int .i64 a,Value.int .i64 b] cB h Q:=by
 refine c195 ?_
 unfold F195
 exact ZMC hq
theorem ZMq {b:Bond} {p:Int} {h:Hp} (ht:b.Tick≠0) {Q:Int→Hp→Prop} (hq:Q (ZDk b p) h):ZA TP 206 [Z8.enc b,Value.int .i64 p] (cI .i64) h Q:=by
 refine c206 ?_
 unfold F206
 unfold ZDk at hq
 refine ZWU (ZD (fun e=>?_) fun e=>⟨ht,ZD (fun e2=>?_) fun e2=>?_⟩)
 ·have e:¬(b.Low≤p∧p≤b.High):=fun h=>by rw [decide_eq_true h] at e; cases e
  rwa [if_neg e] at hq
 ·have e:b.Low≤p∧p≤b.High:=by simpa using e
  have e2:¬p.tmod b.Tick=0:=by simpa using e2
  rwa [if_pos e,if_neg e2] at hq
 ·have e:b.Low≤p∧p≤b.High:=by simpa using e
  have e2:p.tmod b.Tick=0:=by simpa using e2
  rwa [if_pos e,if_pos e2] at hq
theorem ZSp {b:Bond} {p:Int} {h:Hp} (ht:b.Lot≠0) {Q:Int→Hp→Prop} (hq:Q (ZSw b p) h):ZA TP 219 [Z8.enc b,Value.int .i64 p] (cI .i64) h Q:=by
 refine c219 ?_
 unfold F219
 unfold ZSw at hq
 refine ZWU (ZD (fun e=>?_) fun e=>⟨ht,ZD (fun e2=>?_) fun e2=>?_⟩)
 ·have e:¬(b.Min≤p∧p≤b.Max):=fun h=>by rw [decide_eq_true h] at e; cases e
  rwa [if_neg e] at hq
 ·have e:b.Min≤p∧p≤b.Max:=by simpa using e
  have e2:¬p.tmod b.Lot=0:=by simpa using e2
  rwa [if_pos e,if_neg e2] at hq
 ·have e:b.Min≤p∧p≤b.Max:=by simpa using e
  have e2:p.tmod b.Lot=0:=by simpa using e2
  rwa [if_pos e,if_pos e2] at hq
theorem ZN2 {b:Bond} {p q:Int} {h:Hp} (ht:b.Tick≠0) (hl:b.Lot≠0) {Q:Int→Hp→Prop} (hq:Q (ZGy b p q) h):ZA TP 279 [Z8.enc b,Value.int .i64 p,Value.int .i64 q] (cI .i64) h Q:=by
 refine c279 ?_
 unfold F279
 unfold ZGy at hq
 refine ZD (fun e=>?_) fun e=>?_
 ·rwa [if_pos e] at hq
 ·rw [if_neg (by rw [e]; simp)] at hq
  refine ZMq ht (ZD (fun e2=>?_) fun e2=>?_)
  ·have e2:ZDk b p≠0:=by simpa using e2
   rwa [if_pos e2] at hq
  ·have e2:¬ZDk b p≠0:=by simpa using e2
   rw [if_neg e2] at hq
   exact ZSp hl hq
theorem ZPI {x:ZE} {h:Hp} {Q:Bool→Hp→Prop} (hq:Q (Zs x) h):ZA TP 373 [ZK.enc x] cB h Q:=by
 refine c373 ?_
 unfold F373
 unfold Zs at hq
 have e1:∀ a:Int,decide (1≤a)=decide (a≥1):=fun _=>rfl
 refine ZD (fun e1=>ZD (fun e2=>ZD (fun e3=>ZD (fun e4=>ZD (fun e5=>ZD (fun e6=>ZD (fun e7=>?_) fun e=>?_) fun e=>?_) fun e=>?_) fun e=>?_) fun e=>?_) fun e=>?_) fun e=>?_
 all_goals simp only [ge_iff_le,decide_eq_true_eq,decide_eq_false_iff_not] at*
 all_goals simp only [*,decide_true,decide_false,Bool.true_and,Bool.false_and] at hq
 ·exact ZC1 hq
 all_goals exact hq
def ZAR (cd:Cdc) (e:TypeId) (p:Option Addr) (xs:List cd.T) (c:Hp):Prop:=
 ∃ (b:Nat) (sl:Sl) (d:Hp),p=some ⟨b,0,none⟩∧On c [ob b [sv sl] e,d]∧Own cd d sl xs
theorem ZAR.close {cd:Cdc} {e:TypeId} {b:Nat} {sl:Sl} {d h:Hp} {l:List Hp} {xs:List cd.T} (o:On h (ob b [sv sl] e::d::l)) (w:Own cd d sl xs):∃ c,On h (c::l)∧ZAR cd e (some ⟨b,0,none⟩) xs c:=by
 obtain ⟨o6,o7⟩:=On.joined (cs:=[ob b [sv sl] e,d]) (l:=l) o
 exact ⟨_,o6,b,sl,d,rfl,o7,w⟩
theorem ZAR.new {cd:Cdc} {e:TypeId} {k:Nat} {h:Hp} {l:List Hp} (o:On h (ob k [Value.slice none 0 0] e::l)):∃ c,On h (c::l)∧ZAR cd e (some ⟨k,0,none⟩) [] c:=
 ZAR.close (sl:=⟨none,0,0⟩) o.emp.swap (Own.nil _)
theorem ZAR.some {cd:Cdc} {e:TypeId} {p:Option Addr} {xs:List cd.T} {c:Hp} (w:ZAR cd e p xs c):∃ b,p=some ⟨b,0,none⟩:=by
 obtain ⟨b,_,_,e,_⟩:=w
 exact ⟨b,e⟩
theorem ZAx {α:Type} {φ:α→Bool} {l:List α} {i:Nat} (h:l.findIdx? φ=some i):∃ x,l[i]?=some x∧l.find? φ=some x∧φ x=true∧i<l.length∧l.eraseP φ=l.take i++l.drop (i+1):=by
 obtain ⟨hi,h1,h2⟩:=List.findIdx?_eq_some_iff_getElem.1 h
 have hs:l=l.take i++l[i]::l.drop (i+1):=by rw [←List.drop_eq_getElem_cons hi,List.take_append_drop]
 have hno:∀ b∈l.take i,¬φ b=true:=by
  intro b hb
  obtain ⟨j,hj,rfl⟩:=List.mem_take_iff_getElem.1 hb
  exact h2 j (by omega)
 refine ⟨l[i],List.getElem?_eq_getElem hi,?_,h1,hi,?_⟩
 ·rw [List.find?_eq_some_iff_append]
  exact ⟨h1,l.take i,l.drop (i+1),hs,fun a ha=>by have:=hno a ha; simpa using this⟩
 ·exact List.eraseP_eq_iff.2 (.inr ⟨l[i],l.take i,l.drop (i+1),hno,h1,hs,rfl⟩)
theorem ZB1 {α:Type} {φ:α→Bool} {l:List α} (h:l.findIdx? φ=none):l.find? φ=none∧l.eraseP φ=l:=by
 have:=List.findIdx?_eq_none_iff.1 h
 exact ⟨List.find?_eq_none.2 fun x hx=>by rw [this x hx]; simp,List.eraseP_of_forall_not fun x hx=>by rw [this x hx]; simp⟩
def ZYL:ZE:=⟨0,0,0,0,0,0⟩
def ZRJ (l:List ZE) (id:Int):ZE×Bool:=match ZUw l id with
 | none=>(ZYL,false)
 | some o=>(o,true)
abbrev Zh:=ZAR ZK 147
section
variable {p:Option Addr} {xs:List ZE} {c h:Hp} {l:List Hp} {id:Int}
theorem ZRy (o:On h l) {Q:Option Addr→Hp→Prop} (hq:∀ p c h',On h' (c::l)→Zh p [] c→Q p h'):ZA TP 41 [] cP h Q:=by
 refine c41 ?_
 unfold F41
 refine ZI o fun k h1 o1=>?_
 obtain ⟨c,o2,w⟩:=ZAR.new (cd:=ZK) o1
 exact hq _ c h1 o2 w
theorem ZI5 (o:On h (c::l)) (w:Zh p xs c) (hl:xs.length≤1000) {Q:Int→Hp→Prop} (hq:∀ c' h',On h' (c'::l)→Zh p xs c'→Q (ZOi (xs.findIdx? fun o=>o.ID==id)) h'):
 ZA TP 145 [Value.pointer p,Value.int .i64 id] (cI .i64) h Q:=by
 obtain ⟨b,sl,d,rfl,oc,wd⟩:=w
 refine c145 ?_
 unfold F145
 refine ZI (o.split oc) fun k1 h1 o1=>?_
 refine ZQ rfl ?_
 dsimp only [ZR]
 refine ZJ (x:=sl) o1 1 rfl rfl ?_
 refine ZHR (f:=⟨229,#[],#[.pointer (some ⟨k1,0,none⟩)]⟩) (ZYu (k0:=k1) (id:=id)) o1 (by simp) (g:=d) (by simp) wd.row (by omega) fun h2 o2=>?_
 obtain ⟨c2,o3,w3⟩:=ZAR.close o2.tail wd
 exact hq c2 h2 o3 w3
theorem ZQg (o:On h (c::l)) (w:Zh p xs c) (hl:xs.length≤1000) {Q:ZE×Bool→Hp→Prop} (hq:∀ c' h',On h' (c'::l)→Zh p xs c'→Q (ZRJ xs id) h'):
 ZA TP 203 [Value.pointer p,Value.int .i64 id] (ZW [ZK,cB]) h Q:=by
 refine c203 ?_
 unfold F203
 refine ZI5 o w hl fun c1 h1 o1 w1=>?_
 have hq2:=hq c1 h1 o1 w1
 clear hq
 unfold ZRJ ZUw at hq2
 cases hi:xs.findIdx? fun o=>o.ID==id with
 | none=>
   rw [(ZB1 hi).1] at hq2
   exact Zd rfl hq2
 | some i=>
   obtain ⟨x,hx,hf,_,hlt,_⟩:=ZAx hi
   rw [hf] at hq2
   obtain ⟨b,sl,d,rfl,oc,wd⟩:=w1
   refine ZQ (decide_eq_false (by show ¬((i:Nat):Int)<0; omega)) ?_
   dsimp only [ZR]
   have o2:=o1.split oc
   refine ZJ (x:=sl) o2 0 rfl rfl ?_
   exact ZM wd.row (Int.natCast_nonneg i) (by omega) fun a ha=>ZO wd.row (o2.mem (by simp)) rfl ha (i:=i) hx (by rfl) hq2
theorem ZFM (o:On h (c::l)) (w:Zh p xs c) (hl:xs.length≤1000) {Q:ZE×Bool→Hp→Prop} (hq:∀ c' h',On h' (c'::l)→Zh p (ZBu xs id) c'→Q (ZRJ xs id) h'):
 ZA TP 85 [Value.pointer p,Value.int .i64 id] (ZW [ZK,cB]) h Q:=by
 refine c85 ?_
 unfold F85
 refine ZI5 o w hl fun c1 h1 o1 w1=>?_
 unfold ZBu ZRJ ZUw at hq
 cases hi:xs.findIdx? fun o=>o.ID==id with
 | none=>
   rw [(ZB1 hi).1,(ZB1 hi).2] at hq
   exact Zd rfl (hq c1 h1 o1 w1)
 | some i=>
   obtain ⟨x,hx,hf,_,hlt,he⟩:=ZAx hi
   rw [hf,he] at hq
   obtain ⟨b,sl,d,rfl,oc,wd⟩:=w1
   refine ZQ (decide_eq_false (by show ¬((i:Nat):Int)<0; omega)) ?_
   dsimp only [ZR]
   have o2:=o1.split oc
   refine ZJ (x:=sl) o2 0 rfl rfl ?_
   refine ZM wd.row (Int.natCast_nonneg i) (by omega) fun a ha=>ZO wd.row (o2.mem (by simp)) rfl ha (i:=i) hx (by rfl) ?_
   refine ZJ (x:=sl) o2 0 rfl rfl ?_
   show ZA TP 146 [Value.slice sl.a sl.len sl.cap,Value.int .i64 (i:Int),Value.int .i64 (IntKind.i64.wrap ((i:Int)+1))] cSl h1 _
   rw [ZAH (by omega)]
   refine ZPM o2.swap wd (i:=i) (j:=i+1) (by omega) (by omega) fun s3 d3 h3 o3 w3=>?_
   refine ZZ (cd:=cSl) (i:=0) (x:=s3) (vs':=[sv s3]) o3.swap rfl rfl (Nat.le_refl 1) fun h4 o4=>?_
   obtain ⟨c5,o5,w5⟩:=ZAR.close o4 w3
   exact hq c5 h4 o5 w5
theorem ZNH {left:Int} (o:On h (c::l)) (w:Zh p xs c) (hl:xs.length≤1000) {Q:Int→Hp→Prop} (hq:∀ c' h',On h' (c'::l)→Zh p (ZDl xs id left).1 c'→Q (ZDl xs id left).2 h'):
 ZA TP 280 [Value.pointer p,Value.int .i64 id,Value.int .i64 left] (cI .i64) h Q:=by
 refine c280 ?_
 unfold F280
 refine ZQ (by obtain ⟨b,rfl⟩:=w.some; rfl) ?_
 refine ZI5 o w hl fun c1 h1 o1 w1=>?_
 unfold ZDl at hq
 cases hi:xs.findIdx? fun o=>o.ID==id with
 | none=>
   rw [hi] at hq
   exact Zd rfl (hq c1 h1 o1 w1)
 | some i=>
   obtain ⟨x,hx,hf,_,hlt,he⟩:=ZAx hi
   rw [hi] at hq
   dsimp only at hq
   rw [hx] at hq
   dsimp only at hq
   have w1':=w1
   obtain ⟨b,sl,d,rfl,oc,wd⟩:=w1
   refine ZQ (decide_eq_false (by show ¬((i:Nat):Int)<0; omega)) ?_
   dsimp only [ZR]
   have o2:=o1.split oc
   refine ZN (fun t h'=>h'=h1∧t=decide (left<1∨x.Left<left)) ?_ fun J hJ=>?_
   ·rintro t h' ⟨rfl,rfl⟩
    refine ZH (fun e=>?_) fun e=>?_
    ·rw [if_pos e] at hq
     exact hq c1 h' o1 w1'
    ·rw [if_neg e] at hq
     refine ZJ (x:=sl) o2 0 rfl rfl ?_
     refine ZM wd.row (Int.natCast_nonneg i) (by omega) fun a ha=>?_
     have ea:∀ q:Addr,(⟨q.block,q.off+5,none⟩:Addr)=⟨q.block,q.off+5,none⟩:=fun _=>rfl
     have hsp:a.spot=none:=by
      have:=wd.2
      rw [ha] at this
      exact this.1
     have e5:(⟨(a.add (((i:Int)).toNat*6)).block,(a.add (((i:Int)).toNat*6)).off+5,none⟩:Addr)=(a.add (i*6)).add 5:=by
      rw [Int.toNat_natCast,ZA7 hsp,ZCO]
     show ZU (cI .i64) ⟨(a.add (((i:Int)).toNat*6)).block,(a.add (((i:Int)).toNat*6)).off+5,none⟩ left h' _
     rw [e5]
     refine Z9 (cd:=ZK) (cf:=cI .i64) o2.swap rfl rfl wd ha (i:=i) (x0:=x) hx (m:=i*6) rfl (k:=5) (y:=left) (x':=ZBT x left) rfl (Nat.le_refl 6) fun c3 h3 o3 w3=>?_
     obtain ⟨c5,o5,w5⟩:=ZAR.close o3.swap w3
     exact hq c5 h3 o5 w5
   ·refine ZH (fun e=>hJ _ _ ⟨rfl,(decide_eq_true (.inl e)).symm⟩) fun e=>?_
    refine ZJ (x:=sl) o2 0 rfl rfl ?_
    refine ZM wd.row (Int.natCast_nonneg i) (by omega) fun a ha=>?_
    have hsp:a.spot=none:=by
     have:=wd.2
     rw [ha] at this
     exact this.1
    have e5:(⟨(a.add (((i:Int)).toNat*6)).block,(a.add (((i:Int)).toNat*6)).off+5,none⟩:Addr)=(a.add (i*6)).add 5:=by
     rw [Int.toNat_natCast,ZA7 hsp,ZCO]
    show ZC (cI .i64) ⟨(a.add (((i:Int)).toNat*6)).block,(a.add (((i:Int)).toNat*6)).off+5,none⟩ h1 _
    rw [e5]
    refine Zo (cd:=ZK) (cf:=cI .i64) wd.row (o2.mem (by simp)) rfl ha (i:=i) hx rfl (k:=5) (y:=x.Left) rfl ?_
    exact hJ _ _ ⟨rfl,decide_eq_decide.2 (by omega)⟩
theorem ZWO (hc:c.sub h) (w:Zh p xs c) {Q:Int→Hp→Prop} (hq:Q (xs.length:Int) h):ZA TP 369 [Value.pointer p] (cI .i64) h Q:=by
 obtain ⟨b,sl,d,rfl,oc,wd⟩:=w
 refine c369 ?_
 unfold F369
 refine ZQ rfl ?_
 refine ZF (Hp.sub_trans (oc.get (i:=0) rfl) hc) (x:=sl) rfl ?_
 rw [wd.1]
 exact hq
theorem ZQi {x:ZE} (o:On h (c::l)) (w:Zh p xs c) (hl:xs.length≤1000) {Q:Int→Hp→Prop} (hq:∀ c' h',On h' (c'::l)→Zh p (ZN9 xs x).1 c'→Q (ZN9 xs x).2 h'):
 ZA TP 357 [Value.pointer p,ZK.enc x] (cI .i64) h Q:=by
 obtain ⟨b,sl,d,rfl,oc,wd⟩:=w
 refine c357 ?_
 unfold F357
 refine ZI (o.split oc) fun k1 h1 o1=>?_
 dsimp only [ZR]
 have hlen:=wd.1
 unfold ZN9 at hq
 refine ZN (fun t h'=>On h' (ob k1 (ZK.enc x).cells.toList 74::ob b [sv sl] 147::d::l)∧t=decide (Zs x=false∨xs.any (fun y=>y.ID==x.ID||y.Seq==x.Seq)=true)) ?_ fun J hJ=>?_
 ·rintro t h2 ⟨o2,rfl⟩
  refine ZH (fun e=>?_) fun e=>?_
  ·rw [if_pos e] at hq
   obtain ⟨c3,o3,w3⟩:=ZAR.close o2.tail wd
   exact hq c3 h2 o3 w3
  ·rw [if_neg e] at hq
   refine ZJ (x:=sl) o2 1 rfl rfl ?_
   refine ZH (fun e2=>?_) fun e2=>?_
   ·rw [if_pos (by omega)] at hq
    obtain ⟨c3,o3,w3⟩:=ZAR.close o2.tail wd
    exact hq c3 h2 o3 w3
   ·rw [if_neg (by omega)] at hq
    refine ZJ (x:=sl) o2 1 rfl rfl ?_
    refine ZJ (cd:=ZK) (x:=x) o2 0 rfl rfl ?_
    refine ZI o2 fun k2 h3 o3=>?_
    have r3:Row ZK (ob k2 (ZK.enc x).cells.toList 74) ⟨some ⟨k2,0,none⟩,1,1⟩ [x]:=Zf rfl rfl
    have o3':On h3 (d::ob k2 (ZK.enc x).cells.toList 74::ob b [sv sl] 147::l):=o3.pick [3,0,2] 4 (by decide) (by decide)
    refine ZV (g:=ob k2 (ZK.enc x).cells.toList 74) (s:=sl) (t:=⟨some ⟨k2,0,none⟩,1,1⟩) o3' rfl wd (by decide) r3 (o3'.mem (by simp)) (by unfold ZAI; simp; omega) fun d4 p4 n4 m4 h4 o4 w4=>?_
    have o4':On h4 (ob b [sv sl] 147::d4::l):=o4.pick [2,0] 3 (by decide) (by decide)
    refine ZZ (cd:=cSl) (i:=0) (x:=(⟨p4,n4,m4⟩:Sl)) (vs':=[sv ⟨p4,n4,m4⟩]) o4' rfl rfl (Nat.le_refl 1) fun h5 o5=>?_
    obtain ⟨c6,o6,w6⟩:=ZAR.close o5 w4
    exact hq c6 h5 o6 w6
 ·refine ZQ rfl ?_
  refine ZJ (cd:=ZK) (x:=x) o1 0 rfl rfl ?_
  refine ZPI (ZD (fun e=>hJ _ _ ⟨o1,?_⟩) fun e=>?_)
  ·have e:Zs x=false:=by simpa using e
   exact (decide_eq_true (.inl e)).symm
  ·have e:Zs x=true:=by simpa using e
   have o1':On h1 (ob k1 (ZK.enc x).cells.toList 74::ob b [sv sl] 147::d::l):=o1
   refine ZJ (x:=sl) o1 1 rfl rfl ?_
   refine ZGJ (f:=⟨375,#[],#[.pointer (some ⟨k1,0,none⟩)]⟩) (ZXz (k0:=k1) (y:=x)) o1' (fun p hp=>by rw [List.mem_singleton.1 hp]; exact List.mem_cons_self) (g:=d) (by simp) wd.row (by omega) fun h2 o2=>?_
   refine hJ _ _ ⟨o2,?_⟩
   rw [Bool.eq_iff_iff]
   simp [e]
end
def ZGT (s:Int) (x:ZE):ZE:={x with Side:=s}
theorem ZGm {s:Int} {x:ZE} (h:x.Side=s):ZGT s x=x:=by subst h; rfl
theorem ZIM (s:Int) (a b:ZE):ZNS (ZGT s a) (ZGT s b)<0↔(s=1∧b.Price<a.Price)∨(s=2∧a.Price<b.Price)∨(¬(s=1∧a.Price<b.Price)∧¬(s=2∧b.Price<a.Price)∧a.Seq<b.Seq):=by
 unfold ZNS ZAC ZGT
 simp only [Bool.or_eq_true,Bool.and_eq_true,beq_iff_eq,decide_eq_true_eq]
 split
 ·simp only [show (-1:Int)<0 by decide,true_iff]; omega
 ·split
  ·simp only [show ¬(1:Int)<0 by decide,false_iff]; omega
  ·split
   ·simp only [show (-1:Int)<0 by decide,true_iff]; omega
   ·split
    ·simp only [show ¬(1:Int)<0 by decide,false_iff]; omega
    ·simp only [show ¬(0:Int)<0 by decide,false_iff]; omega
def Lo (s:Int) (a b:ZE):Prop:=¬ZNS (ZGT s b) (ZGT s a)<0
theorem Lo.trans {s:Int} {a b c:ZE} (h:Lo s a b) (g:Lo s b c):Lo s a c:=by
 unfold Lo at*
 rw [ZIM] at*
 omega
theorem Lo.anti {s:Int} {a b:ZE} (h:Lo s a b) (g:Lo s b a):a.Seq=b.Seq:=by
 unfold Lo at*
 rw [ZIM] at*
 omega
theorem ZZi {s:Int} {o:ZE} (ho:o.Side=s):∀ {l:List ZE},(∀ x∈l,x.Side=s)→l.Pairwise (Lo s)→(ZQ2 o l).Pairwise (Lo s)∧(ZQ2 o l).Perm (o::l)
 | [],_,_=>⟨by simp [ZQ2],List.Perm.refl _⟩
 | x::l,hs,hp=>by
   have hp':=List.pairwise_cons.1 hp
   have hx:x.Side=s:=hs x (by simp)
   unfold ZQ2
   split
   ·rename_i e
    refine ⟨List.pairwise_cons.2 ⟨fun z hz=>?_,hp⟩,List.Perm.refl _⟩
    have e:ZNS (ZGT s o) (ZGT s x)<0:=by rw [ZGm ho,ZGm hx]; exact e
    have hox:Lo s o x:=by
     unfold Lo
     rw [ZIM] at*
     omega
    rcases List.mem_cons.1 hz with rfl|hz
    ·exact hox
    ·exact hox.trans (hp'.1 z hz)
   ·rename_i e
    have e:Lo s x o:=by
     unfold Lo
     rw [ZGm ho,ZGm hx]; exact e
    have ih:=ZZi ho (fun y hy=>hs y (by simp [hy])) hp'.2
    refine ⟨List.pairwise_cons.2 ⟨fun z hz=>?_,ih.1⟩,(List.Perm.cons x ih.2).trans (List.Perm.swap o x l)⟩
    rcases List.mem_cons.1 (ih.2.mem_iff.1 hz) with rfl|hz
    ·exact e
    ·exact hp'.1 z hz
theorem ZPy {s:Int}:∀ {l:List ZE},(∀ x∈l,x.Side=s)→(ZJV l).Pairwise (Lo s)∧(ZJV l).Perm l
 | [],_=>⟨List.Pairwise.nil,List.Perm.refl _⟩
 | x::l,h=>by
   have ih:=ZPy fun y hy=>h y (List.mem_cons_of_mem _ hy)
   have h2:=ZZi (h x (by simp)) (fun y hy=>h y (by simp [ih.2.mem_iff.1 hy])) ih.1
   exact ⟨h2.1,h2.2.trans (List.Perm.cons x ih.2)⟩
theorem ZWc {l:List ZE} (hn:(l.map fun x=>x.Seq).Nodup):∀ a∈l,∀ b∈l,a.Seq=b.Seq→a=b:=by
 induction l with
 | nil=>intro a ha; cases ha
 | cons x l ih=>
   rw [List.map_cons,List.nodup_cons] at hn
   intro a ha b hb e
   rcases List.mem_cons.1 ha with h1|h1<;>rcases List.mem_cons.1 hb with h2|h2
   ·rw [h1,h2]
   ·exact absurd (List.mem_map.2 ⟨b,h2,by rw [←e,h1]⟩) hn.1
   ·exact absurd (List.mem_map.2 ⟨a,h1,by rw [e,h2]⟩) hn.1
   ·exact ih hn.2 a h1 b h2 e
theorem ZS7 {s:Int} {xs ys:List ZE} (hs:∀ x∈xs,x.Side=s) (hn:(xs.map fun x=>x.Seq).Nodup) (hp:ys.Perm xs) (hy:ys.Pairwise (Lo s)):ys=ZJV xs:=by
 have h:=ZPy hs
 refine List.Perm.eq_of_pairwise (le:=Lo s) (fun a b ha hb h1 h2=>?_) hy h.1 (hp.trans h.2.symm)
 exact ZWc hn a (hp.mem_iff.1 ha) b (h.2.mem_iff.1 hb) (h1.anti h2)
end Go.Proofs.YtkmniidiifpdgaaGreat
namespace Go.Proofs.YtkmniidiifpdgaaGreat
open Go.Shelf
def ZL9:Go.Shelf.Ren:=⟨fun|6=>57|15=>101|14=>100|28=>178|29=>179|20=>170|21=>171|22=>172|23=>173|24=>174|25=>175|26=>176|27=>177|46=>256|47=>257|48=>258|49=>259|50=>260|57=>313|n=>n,fun|22=>71|24=>74|25=>149|3=>3|39=>142|0=>0|53=>271|55=>48|4=>4|46=>265|45=>264|50=>248|5=>5|9=>9|66=>348|70=>352|76=>403|77=>404|n=>n,fun|n=>n⟩
theorem ZNz:Go.Proofs.SlLaysF0.n6 Tryz.prog ZL9:={
 mixed:=by kernel_rfl,
 f6:=⟨Tryz.f57.name,by decide,Tryz.func57.trans (congrArg some (by kernel_rfl))⟩,
 f14:=⟨Tryz.f100.name,by decide,Tryz.func100.trans (congrArg some (by kernel_rfl))⟩,
 f15:=Tryz.func101.trans (congrArg some (by kernel_rfl)),
 f20:=⟨Tryz.f170.name,by decide,Tryz.func170.trans (congrArg some (by kernel_rfl))⟩,
 f21:=⟨Tryz.f171.name,by decide,Tryz.func171.trans (congrArg some (by kernel_rfl))⟩,
 f22:=⟨Tryz.f172.name,by decide,Tryz.func172.trans (congrArg some (by kernel_rfl))⟩,
 f23:=⟨Tryz.f173.name,by decide,Tryz.func173.trans (congrArg some (by kernel_rfl))⟩,
 f24:=⟨Tryz.f174.name,by decide,Tryz.func174.trans (congrArg some (by kernel_rfl))⟩,
 f25:=⟨Tryz.f175.name,by decide,Tryz.func175.trans (congrArg some (by kernel_rfl))⟩,
 f26:=⟨Tryz.f176.name,by decide,Tryz.func176.trans (congrArg some (by kernel_rfl))⟩,
 f27:=⟨Tryz.f177.name,by decide,Tryz.func177.trans (congrArg some (by kernel_rfl))⟩,
 f28:=Tryz.func178.trans (congrArg some (by kernel_rfl)),
 f29:=Tryz.func179.trans (congrArg some (by kernel_rfl)),
 f46:=⟨Tryz.f256.name,by decide,Tryz.func256.trans (congrArg some (by kernel_rfl))⟩,
 f47:=Tryz.func257.trans (congrArg some (by kernel_rfl)),
 f48:=Tryz.func258.trans (congrArg some (by kernel_rfl)),
 f49:=⟨Tryz.f259.name,by decide,Tryz.func259.trans (congrArg some (by kernel_rfl))⟩,
 f50:=⟨Tryz.f260.name,by decide,Tryz.func260.trans (congrArg some (by kernel_rfl))⟩,
 f57:=⟨Tryz.f313.name,by decide,Tryz.func313.trans (congrArg some (by kernel_rfl))⟩,
 t0:=Tryz.underlying0,
 a0:=Tryz.isAgg0,
 z0:=Tryz.sizeOf0,
 v0:=Tryz.zeroValue0,
 t3:=Tryz.underlying3,
 a3:=Tryz.isAgg3,
 z3:=Tryz.sizeOf3,
 v3:=Tryz.zeroValue3,
 t4:=Tryz.underlying4,
 a4:=Tryz.isAgg4,
 z4:=Tryz.sizeOf4,
 v4:=Tryz.zeroValue4,
 t5:=Tryz.underlying5,
 a5:=Tryz.isAgg5,
 z5:=Tryz.sizeOf5,
 v5:=Tryz.zeroValue5,
 t9:=Tryz.underlying9,
 a9:=Tryz.isAgg9,
 z9:=Tryz.sizeOf9,
 v9:=Tryz.zeroValue9,
 t22:=Tryz.underlying71,
 a22:=Tryz.isAgg71,
 z22:=Tryz.sizeOf71,
 v22:=Tryz.zeroValue71,
 t25:=Tryz.underlying149,
 a25:=Tryz.isAgg149,
 z25:=Tryz.sizeOf149,
 v25:=Tryz.zeroValue149,
 t39:=Tryz.underlying142,
 a39:=Tryz.isAgg142,
 z39:=Tryz.sizeOf142,
 v39:=Tryz.zeroValue142,
 t45:=Tryz.underlying264,
 a45:=Tryz.isAgg264,
 z45:=Tryz.sizeOf264,
 v45:=Tryz.zeroValue264,
 t46:=Tryz.underlying265,
 a46:=Tryz.isAgg265,
 z46:=Tryz.sizeOf265,
 v46:=Tryz.zeroValue265,
 t50:=Tryz.underlying248,
 a50:=Tryz.isAgg248,
 z50:=Tryz.sizeOf248,
 v50:=Tryz.zeroValue248,
 t53:=Tryz.underlying271,
 a53:=Tryz.isAgg271,
 z53:=Tryz.sizeOf271,
 v53:=Tryz.zeroValue271,
 t55:=Tryz.underlying48,
 a55:=Tryz.isAgg48,
 z55:=Tryz.sizeOf48,
 v55:=Tryz.zeroValue48,
 t66:=Tryz.underlying348,
 a66:=Tryz.isAgg348,
 z66:=Tryz.sizeOf348,
 v66:=Tryz.zeroValue348,
 t70:=Tryz.underlying352,
 a70:=Tryz.isAgg352,
 z70:=Tryz.sizeOf352,
 v70:=Tryz.zeroValue352,
 t76:=Tryz.underlying403,
 a76:=Tryz.isAgg403,
 z76:=Tryz.sizeOf403,
 v76:=Tryz.zeroValue403,
 t77:=Tryz.underlying404,
 a77:=Tryz.isAgg404,
 z77:=Tryz.sizeOf404,
 v77:=Tryz.zeroValue404
}
end Go.Proofs.YtkmniidiifpdgaaGreat
namespace Go.Proofs.YtkmniidiifpdgaaGreat
open Go.Eng Go.Shelf Go.RowKit Go.Lib Go.Sort Go.Proofs
theorem ZMK (x y:ZE):ZNS x y=if (x.Side=1∧y.Price<x.Price)∨(x.Side=2∧x.Price<y.Price) then -1 else if (x.Side=1∧x.Price<y.Price)∨(x.Side=2∧y.Price<x.Price) then 1 else if x.Seq<y.Seq then -1 else if y.Seq<x.Seq then 1 else 0:=by
 unfold ZNS ZAC
 simp only [Bool.or_eq_true,Bool.and_eq_true,beq_iff_eq,decide_eq_true_eq,gt_iff_lt]
theorem ZRL (x y:ZE) (W:World):Calls Tryz.prog 58 #[.agg #[.int .i64 x.ID,.int .i64 x.Seq,.int .i64 x.Owner,.int .i64 x.Side,.int .i64 x.Price,.int .i64 x.Left],.agg #[.int .i64 y.ID,.int .i64 y.Seq,.int .i64 y.Owner,.int .i64 y.Side,.int .i64 y.Price,.int .i64 y.Left]] W fun e w'=>e=.returned (.int .i64 (ZNS x y))∧∃ q os',w'=grow (W.drewN q) os':=by
 go_enter Tryz.func58,Tryz.ntmps58
 go_wp2
 all_goals go_ret
 all_goals refine ⟨?_,0,_,by rw [alloc_eq_grow,alloc_eq_grow,grow_grow]; rfl⟩
 all_goals first
  | exact congrArg (fun k=>Ending.returned (Value.int .i64 k)) (show (-1:Int)=ZNS x y by rw [ZMK]; (repeat' split)<;>omega)
  | exact congrArg (fun k=>Ending.returned (Value.int .i64 k)) (show (1:Int)=ZNS x y by rw [ZMK]; (repeat' split)<;>omega)
  | exact congrArg (fun k=>Ending.returned (Value.int .i64 k)) (show (0:Int)=ZNS x y by rw [ZMK]; (repeat' split)<;>omega)
end Go.Proofs.YtkmniidiifpdgaaGreat
namespace Go.Proofs.YtkmniidiifpdgaaGreat
open Go.Eng Go.Shelf Go.RowKit Go.Lib Go.Sort Go.Proofs
instance ZZj:Inhabited ZE:=⟨⟨0,0,0,0,0,0⟩⟩
def ZY7 (s:Int) (x:ZE):List Value:=[.int .i64 x.ID,.int .i64 x.Seq,.int .i64 x.Owner,.int .i64 s,.int .i64 x.Price,.int .i64 x.Left]
def cfS (s:Int) (x y:ZE):Int:=ZNS (ZGT s x) (ZGT s y)
theorem ZZp (s:Int):SWO (ltOf (cfS s)) where
 irrefl x:=by
  unfold ltOf cfS
  rw [decide_eq_false_iff_not,ZIM]
  omega
 trans x y z h1 h2:=by
  unfold ltOf cfS at*
  rw [decide_eq_true_eq,ZIM] at*
  omega
 ntrans x y z h1 h2:=by
  unfold ltOf cfS at*
  rw [decide_eq_false_iff_not,ZIM] at*
  omega
theorem ZG5 {s:Int}:∀ {xs:List ZE},(∀ x∈xs,x.Side=s)→ZG ZK xs=xs.flatMap (ZY7 s)
 | [],_=>rfl
 | x::xs,h=>by
   have hx:x.Side=s:=h x (by simp)
   rw [ZAm,List.flatMap_cons,ZG5 fun y hy=>h y (by simp [hy])]
   congr 1
   subst hx
   rfl
theorem ZQC {s:Int} {xs:List ZE} {d':Array ZE} (hs:∀ x∈xs,x.Side=s) (hn:(xs.map fun x=>x.Seq).Nodup) (hp:PermIn 0 xs.toArray.size xs.toArray d') (ho:SortedIn (ltOf (cfS s)) 0 xs.toArray.size d'):d'.toList=ZJV xs:=by
 have hsz:d'.size=xs.length:=by rw [hp.1]; simp
 refine ZS7 hs hn ?_ ?_
 ·have h:=hp.2.2
  rw [←hp.1,Array.extract_size,hp.1,Array.extract_size] at h
  simpa using h
 ·rw [List.pairwise_iff_getElem]
  intro i j hi hj hij
  rw [Array.length_toList] at hi hj
  have h:=ho i j (Nat.zero_le _) hij (by simpa [hsz] using hj)
  rw [getElem!_pos d' j hj,getElem!_pos d' i hi] at h
  unfold ltOf cfS at h
  rw [decide_eq_false_iff_not] at h
  exact h
theorem ZTz {p0:Sl} {xs:List ZE} {s:Int} {d h:Hp} {l:List Hp} (o:On h (d::l)) (w:Own ZK d p0 xs) (hs:∀ x∈xs,x.Side=s) (hn:(xs.map fun x=>x.Seq).Nodup) (hl:xs.length≤1000)
 {Q:Unit→Hp→Prop} (hq:∀ d' h',On h' (d'::l)→Own ZK d' p0 (ZJV xs)→Q () h'):ZA Tryz.prog 57 [Value.slice p0.a p0.len p0.cap,Value.func (Fn.func 58) #[] #[]] (ZW []) h Q:=by
 obtain ⟨pa,plen,pcap⟩:=p0
 obtain ⟨hlen,w⟩:=w
 dsimp only at hlen w ⊢
 cases pa with
 | none=>
   obtain ⟨hc,rfl⟩:=w
   have hlen:plen=0:=hlen
   subst hlen
   intro W fr hw hfr hdj
   refine (AnyF.slices_SortFunc_none (P:=Tryz.prog) (ρ:=ZL9) ZNz none pcap (Value.func (Fn.func 58) #[] #[]) W).mono ?_
   rintro e w' ⟨rfl,rfl⟩
   exact ⟨_,h,rfl,⟨(),rfl,hq d h o ⟨rfl,hc,rfl⟩⟩,hw,hfr,hdj,ZFx.refl _⟩
 | some a=>
   obtain ⟨blk,off,spot⟩:=a
   obtain ⟨hsp,pre,rest,ZBf,e,fz,hb,hpre,hroom,hfz⟩:=w
   have hsp:spot=none:=hsp
   subst hsp
   have hpre:pre.length=off:=hpre
   rw [ZG5 hs] at hb
   have hdsz:xs.toArray.size=xs.length:=by simp
   subst hlen
   refine ZRv (α:=ZE) (k:=6) (enc:=ZY7 s) (d:=xs.toArray) (Good:=fun d'=>PermIn 0 xs.toArray.size xs.toArray d'∧SortedIn (ltOf (cfS s)) 0 xs.toArray.size d') (blk:=blk) (off:=off) (pre:=pre) (tail:=rest++ZBf) (e:=e) (fz:=fz) (fun _=>rfl) o hb hpre ?_ ?_ ?_
   ·intro j h1 h2
    refine hfz j h1 ?_
    rw [hdsz] at h2
    have hroom:xs.length*6+rest.length=pcap*6:=hroom
    show j<off+pcap*6
    omega
   ·intro W hH hblk
    have hc:=AnyQ.slices_SortFunc (P:=Tryz.prog) (ρ:=ZL9) ZNz 6 Tryz.isAgg74 Tryz.sizeOf74 (ZY7 s) (fun _=>rfl) (fun x v hv=>by simp only [ZY7,List.mem_cons,List.not_mem_nil,or_false] at hv; rcases hv with rfl|rfl|rfl|rfl|rfl|rfl<;>rfl) (cfS s) (ZZp s) 58 #[] blk off pcap xs.toArray W
     (enters_of Tryz.func58 (by kernel_rfl) rfl) (fun m os dk hdk x y=>ZRL (ZGT s x) (ZGT s y) _) hH hblk (by rw [hdsz]; omega)
    refine hc.mono ?_
    rintro ex w' ⟨rfl,d',n,os,h1,h2,rfl⟩
    exact ⟨rfl,d',n,os,⟨h1,h2⟩,h1.1,rfl⟩
   ·rintro d' c' h' o' hb' ⟨h1,h2⟩ hsz
    have hd:=ZQC hs hn h1 h2
    refine hq c' h' o' ⟨?_,rfl,pre,rest,ZBf,e,fz,?_,hpre,?_,hfz⟩
    ·exact (ZPy hs).2.length_eq.symm
    ·rw [ZG5 fun x hx=>hs x ((ZPy hs).2.mem_iff.1 hx),←hd]
     exact hb'
    ·rw [(ZPy hs).2.length_eq]
     exact hroom
theorem ZHf (o:ZE):∀ l:List ZE,(ZQ2 o l).Perm (o::l)
 | []=>List.Perm.refl _
 | x::l=>by
   unfold ZQ2
   split
   ·exact List.Perm.refl _
   ·exact (List.Perm.cons x (ZHf o l)).trans (List.Perm.swap o x l)
theorem ZEN:∀ l:List ZE,(ZJV l).Perm l
 | []=>List.Perm.refl _
 | x::l=>(ZHf x (ZJV l)).trans (List.Perm.cons x (ZEN l))
theorem Z7 {l:List ZE} {s:Int} {x:ZE}:x∈ZAZ l s↔x∈l∧x.Side=s:=by
 unfold ZAZ
 rw [(ZEN _).mem_iff,List.mem_filter]
 simp
theorem ZBl (l:List ZE) (s:Int):(ZAZ l s).length≤l.length:=by
 unfold ZAZ
 rw [(ZEN _).length_eq]
 exact List.length_filter_le _ _
def ZC9 (l:List ZE):Prop:=(l.map fun x=>x.Seq).Nodup
section
variable {p:Option Addr} {xs:List ZE} {c h:Hp} {l:List Hp}
theorem ZDN {s:Int} (o:On h (c::l)) (w:Zh p xs c) (hs:ZC9 xs) (hl:xs.length≤1000) {Q:Sl→Hp→Prop} (hq:∀ sl c' d' h',On h' (c'::d'::l)→Zh p xs c'→Own ZK d' sl (ZAZ xs s)→Q sl h'):
 ZA TP 20 [Value.pointer p,Value.int .i64 s] cSl h Q:=by
 obtain ⟨b,sl,d,rfl,oc,wd⟩:=w
 refine c20 ?_
 unfold F20
 dsimp only [ZR]
 refine ZQ rfl ?_
 have o0:=o.split oc
 have hlen:=wd.1
 refine ZJ (x:=sl) o0 0 rfl rfl ?_
 refine Zb (fun z h'=>∃ (i:Nat) (dO:Hp),z.2=(i:Int)∧i≤xs.length∧On h' (dO::ob b [sv sl] 147::d::l)∧Own ZK dO z.1 ((xs.take i).filter fun x=>x.Side==s)) (fun z=>xs.length-z.2.toNat)
  ⟨0,Hp.emp,rfl,Nat.zero_le _,o0.emp,Own.nil _⟩ ?_
 rintro J ⟨z,zi⟩ h1 again ⟨i,dO,hzi,hle,o1,w1⟩
 dsimp only at hzi w1
 subst hzi
 dsimp only
 have hfl:((xs.take i).filter fun x=>x.Side==s).length≤i:=Nat.le_trans (List.length_filter_le _ _) (by rw [List.length_take]; omega)
 refine ZH (fun hlt=>?_) fun hge=>?_
 ·have hi:i<xs.length:=by omega
  have a0:xs[i]?=some xs[i]:=List.getElem?_eq_getElem hi
  generalize xs[i]=x at a0
  have ei:IntKind.i64.wrap ((i:Int)+1)=((i+1:Nat):Int):=ZAH (by omega)
  rw [ei]
  have est:(xs.take (i+1)).filter (fun x=>x.Side==s)=(xs.take i).filter (fun x=>x.Side==s)++if (x.Side==s)=true then [x] else []:=by
   rw [List.take_add_one,a0,List.filter_append]
   simp [List.filter_cons]
  refine ZN (fun z h'=>∃ dO,On h' (dO::ob b [sv sl] 147::d::l)∧Own ZK dO z ((xs.take (i+1)).filter fun x=>x.Side==s)) ?_ fun J2 hJ2=>?_
  ·rintro z2 h2 ⟨dO2,o2,w2⟩
   exact again _ _ ⟨i+1,dO2,rfl,by omega,o2,w2⟩ (by dsimp only; omega)
  ·refine ZM wd.row (Int.natCast_nonneg i) (by omega) fun a ha=>ZO wd.row (o1.mem (by simp)) rfl ha (i:=i) a0 (by rfl) ?_
   refine ZD (fun e=>?_) fun e=>?_
   ·rw [if_pos e] at est
    refine ZI o1 fun k2 h2 o2=>?_
    have r2:Row ZK (ob k2 (ZK.enc x).cells.toList 74) ⟨some ⟨k2,0,none⟩,1,1⟩ [x]:=Zf rfl rfl
    have o2':On h2 (dO::ob k2 (ZK.enc x).cells.toList 74::ob b [sv sl] 147::d::l):=o2.swap
    refine ZV (g:=ob k2 (ZK.enc x).cells.toList 74) (s:=z) (t:=⟨some ⟨k2,0,none⟩,1,1⟩) o2' rfl w1 (by decide) r2 (o2'.mem (by simp)) (by unfold ZAI; simp; omega) fun d4 p4 n4 m4 h4 o4 w4=>?_
    exact hJ2 ⟨p4,n4,m4⟩ h4 ⟨d4,o4.pick [0,2,3] 4 (by decide) (by decide),by rw [est]; exact w4⟩
   ·rw [if_neg (by rw [e]; simp),List.append_nil] at est
    exact hJ2 z h1 ⟨dO,o1,by rw [est]; exact w1⟩
 ·have:i=xs.length:=by omega
  subst this
  rw [List.take_length] at w1
  have hn:((xs.filter fun x=>x.Side==s).map fun x=>x.Seq).Nodup:=hs.sublist ((List.filter_sublist ..).map _)
  refine ZTz (s:=s) o1 w1 (fun x hx=>by simpa using (List.mem_filter.1 hx).2) hn (Nat.le_trans (List.length_filter_le _ _) hl) fun d2 h2 o2 w2=>?_
  obtain ⟨c3,o3,w3⟩:=ZAR.close (o2.pick [1,2,0] 3 (by decide) (by decide)) wd
  exact hq z c3 d2 h2 o3 w3 w2
theorem ZSV {x y:ZE} {how:Int} {Q:Bool→Hp→Prop} (hq:Q (ZFP how x y) h):ZA TP 372 [ZK.enc x,ZK.enc y,Value.int .i64 how] cB h Q:=by
 refine c372 ?_
 unfold F372
 unfold ZFP at hq
 exact ZD (fun e=>by rwa [e,Bool.true_or] at hq) fun e=>ZSD (by rwa [e,Bool.false_or] at hq)
theorem ZYI {k0 k1:Nat} {x:ZE} {how:Int}:Clo TP [ob k0 (ZK.enc x).cells.toList 74,ob k1 [Value.int .i64 how] 3] ⟨371,#[],#[.pointer (some ⟨k0,0,none⟩),.pointer (some ⟨k1,0,none⟩)]⟩ (fun y=>[ZK.enc y]) cB (fun y:ZE=>!ZFP how x y):=by
 intro y h l Q hcc o hq
 have m0:=o.mem (hcc (ob k0 (ZK.enc x).cells.toList 74) List.mem_cons_self)
 have m1:=o.mem (hcc (ob k1 [Value.int .i64 how] 3) (List.mem_cons_of_mem _ List.mem_cons_self))
 refine ⟨⟨Tryz.f371,_,Tryz.func371,rfl⟩,?_⟩
 refine c371 ?_
 unfold F371
 refine ZF (cd:=ZK) m0 (x:=x) rfl (ZF m1 (x:=how) rfl ?_)
 exact ZSV (hq h o)
theorem ZFf {α:Type} (φ:α→Bool):∀ l:List α,l.takeWhile φ=match l.findIdx? fun x=>!φ x with|none=>l|some i=>l.take i
 | []=>rfl
 | x::l=>by
   rw [List.takeWhile_cons,List.findIdx?_cons]
   cases h:φ x with
   | false=>simp
   | true=>
     simp only [Bool.not_true,Bool.false_eq_true,if_false,if_true]
     rw [ZFf φ l]
     cases l.findIdx? fun x=>!φ x with
     | none=>rfl
     | some i=>rfl
theorem ZIt {x:ZE} {how:Int} (o:On h (c::l)) (w:Zh p xs c) (hs:ZC9 xs) (hl:xs.length≤1000) {Q:Sl→Hp→Prop} (hq:∀ sl c' d' h',On h' (c'::d'::l)→Zh p xs c'→Row ZK d' sl (ZCX xs x how)→Q sl h'):
 ZA TP 354 [Value.pointer p,ZK.enc x,Value.int .i64 how] cSl h Q:=by
 refine c354 ?_
 unfold F354
 refine ZI o fun k1 h1 o1=>?_
 refine ZI o1 fun k2 h2 o2=>?_
 have o2:On h2 (ob k2 [Value.int .i64 how] 3::ob k1 (ZK.enc x).cells.toList 74::c::l):=o2
 refine ZJ (x:=x.Side) o2 1 rfl rfl ?_
 refine ZJc ?_
 refine ZDN (s:=ZBq x.Side) (o2.pick [2,0,1] 3 (by decide) (by decide)) w hs hl fun sl c3 d3 h3 o3 w3 wd3=>?_
 have hl3:=ZBl xs (ZBq x.Side)
 refine ZHR (f:=⟨371,#[],#[.pointer (some ⟨k1,0,none⟩),.pointer (some ⟨k2,0,none⟩)]⟩) (ZYI (k0:=k1) (k1:=k2) (x:=x) (how:=how)) o3 (fun p hp=>by
  rcases List.mem_cons.1 hp with rfl|hp
  ·exact List.mem_cons_of_mem _ (List.mem_cons_of_mem _ (List.mem_cons_of_mem _ List.mem_cons_self))
  ·rw [List.mem_singleton.1 hp]; exact List.mem_cons_of_mem _ (List.mem_cons_of_mem _ List.mem_cons_self)) (g:=d3) (by simp) wd3.row (by omega) fun h4 o4=>?_
 have o4':On h4 (c3::d3::l):=o4.pick [0,1] 4 (by decide) (by decide)
 unfold ZCX at hq
 rw [ZFf] at hq
 have hlen:=wd3.1
 have hcap:=wd3.le_cap (by decide)
 cases hi:(ZAZ xs (ZBq x.Side)).findIdx? fun y=>!ZFP how x y with
 | none=>
   rw [hi] at hq
   exact Zd rfl (hq sl c3 d3 h4 o4' w3 wd3.row)
 | some i=>
   rw [hi] at hq
   obtain ⟨_,_,_,_,hlt,_⟩:=ZAx hi
   refine ZQ (decide_eq_false (by show ¬((i:Nat):Int)<0; omega)) ?_
   refine ⟨Int.natCast_nonneg i,by show (((i:Nat):Int))≤_; omega,?_⟩
   dsimp only
   have hcut:=wd3.row.cut (k:=0) (m:=i) (cap':=sl.cap-0) (by omega) (by omega) hcap rfl (z:=6) rfl
   rw [List.drop_zero,Nat.sub_zero] at hcut
   exact hq _ c3 d3 h4 o4' w3 hcut
theorem ZMf {how:Int} {Q:Bool→Hp→Prop} (hq:Q (ZHU how) h):ZA TP 356 [Value.int .i64 how] cB h Q:=by
 refine c356 ?_
 unfold F356
 unfold ZHU at hq
 exact ZD (fun e=>by rwa [e,Bool.true_or] at hq) fun e=>by rwa [e,Bool.false_or] at hq
def ZH1 (l:List ZE):Prop:=∀ x∈l,1≤x.Left∧x.Left≤1000000∧1≤x.Price∧x.Price≤1000000
theorem ZCS {x:ZE} {how:Int} {y:ZE} (h:y∈ZCX xs x how):y∈xs:=by
 unfold ZCX at h
 exact (Z7.1 ((List.takeWhile_sublist _).subset h)).1
theorem ZFt (x:ZE) (how:Int):(ZCX xs x how).length≤xs.length:=Nat.le_trans (List.takeWhile_sublist _).length_le (ZBl _ _)
theorem ZUh {x:ZE} {how:Int} (o:On h (c::l)) (w:Zh p xs c) (hs:ZC9 xs) (hsm:ZH1 xs) (hl:xs.length≤1000) {Q:Int→Hp→Prop} (hq:∀ c' h',On h' (c'::l)→Zh p xs c'→Q (ZNQ xs x how) h'):
 ZA TP 370 [Value.pointer p,ZK.enc x,Value.int .i64 how] (cI .i64) h Q:=by
 refine c370 ?_
 unfold F370
 unfold ZNQ at hq
 refine ZC1 (ZD (fun e=>?_) fun e=>?_)
 ·have e:ZBK x.Side=false:=by simpa using e
  rw [if_pos e] at hq
  exact hq c h o w
 ·have e:ZBK x.Side=true:=by simpa using e
  rw [if_neg (by rw [e]; simp)] at hq
  refine ZIt o w hs hl fun sl c1 d1 h1 o1 w1 r1=>?_
  have hlen:=r1.1
  have hml:=ZFt (xs:=xs) x how
  have hmm:∀ y∈ZCX xs x how,1≤y.Left∧y.Left≤1000000:=fun y hy=>⟨(hsm y (ZCS hy)).1,(hsm y (ZCS hy)).2.1⟩
  generalize ZCX xs x how=ms at hq r1 hlen hml hmm
  have hsum:∀ i,0≤(((ms.take i).filter fun y=>y.Owner != x.Owner).map fun y=>y.Left).sum∧(((ms.take i).filter fun y=>y.Owner != x.Owner).map fun y=>y.Left).sum≤1000000*(i:Int):=by
   intro i
   induction i with
   | zero=>simp
   | succ i ih=>
     rw [List.take_add_one]
     cases hy:ms[i]? with
     | none=>simp; omega
     | some y=>
       have:=hmm y (List.mem_of_getElem? hy)
       rw [List.filter_append,List.map_append,List.sum_append]
       by_cases he:(y.Owner != x.Owner)=true
       ·simp only [Option.toList_some,List.filter_cons,he,if_true,List.filter_nil,List.map_cons,List.map_nil,List.sum_cons,List.sum_nil]
        omega
       ·simp only [Option.toList_some,List.filter_cons,he,List.filter_nil]
        simp; omega
  refine Zb (fun z h'=>∃ i:Nat,z=((((ms.take i).filter fun y=>y.Owner != x.Owner).map fun y=>y.Left).sum,(i:Int))∧i≤ms.length∧h'=h1) (fun z=>ms.length-z.2.toNat) ⟨0,by simp,Nat.zero_le _,rfl⟩ ?_
  rintro J z h2 again ⟨i,rfl,hle,rfl⟩
  dsimp only
  have hsi:=hsum i
  refine ZH (fun hlt=>?_) fun hge=>?_
  ·have hi:i<ms.length:=by omega
   have a0:ms[i]?=some ms[i]:=List.getElem?_eq_getElem hi
   have hy:=hmm _ (List.mem_of_getElem? a0)
   generalize ms[i]=y at a0 hy
   have ei:IntKind.i64.wrap ((i:Int)+1)=((i+1:Nat):Int):=ZAH (by omega)
   rw [ei]
   have est:(((ms.take (i+1)).filter fun y=>y.Owner != x.Owner).map fun y=>y.Left).sum=(((ms.take i).filter fun y=>y.Owner != x.Owner).map fun y=>y.Left).sum+if (y.Owner != x.Owner)=true then y.Left else 0:=by
    rw [List.take_add_one,a0,List.filter_append,List.map_append,List.sum_append]
    by_cases he:(y.Owner != x.Owner)=true<;>simp [he]
   refine ZN (fun n h'=>h'=h2∧n=(((ms.take (i+1)).filter fun y=>y.Owner != x.Owner).map fun y=>y.Left).sum) ?_ fun J2 hJ2=>?_
   ·rintro n h3 ⟨rfl,rfl⟩
    exact again _ _ ⟨i+1,rfl,by omega,rfl⟩ (by dsimp only; omega)
   ·refine ZM r1 (Int.natCast_nonneg i) (by omega) fun a ha=>ZO r1 (o1.mem (by simp)) rfl ha (i:=i) a0 (by rfl) ?_
    refine ZD (fun he=>hJ2 _ _ ⟨rfl,?_⟩) fun he=>hJ2 _ _ ⟨rfl,?_⟩
    ·rw [est,if_pos he]
     exact w64 (by omega) (by omega)
    ·rw [est,if_neg (by rw [he]; simp)]; simp
  ·have:i=ms.length:=by omega
   subst this
   rw [List.take_length]
   have hq:=hq c1 h2 (o1.pick [0] 2 (by decide) (by decide)) w1
   have e1:∀ a b:Int,ZTJ (ZJi a b) 0=max (min a b) 0:=by
    intro a b
    unfold ZTJ ZJi
    split<;>split<;>omega
   rw [e1]
   exact hq
end
theorem ZQF (a b:Int):ZJi a b=min a b:=by unfold ZJi; split<;>omega
section
variable {p:Option Addr} {xs:List ZE} {c h:Hp} {l:List Hp}
theorem ZKm (φ:ZE→Bool) (xs:List ZE):(xs.any fun x=>ZBK x.Side&&φ x)=((ZAZ xs 1).any φ||(ZAZ xs 2).any φ):=by
 rw [Bool.eq_iff_iff]
 simp only [Bool.or_eq_true,List.any_eq_true,Bool.and_eq_true,ZHJ]
 constructor
 ·rintro ⟨x,hx,hs|hs,hp⟩
  ·exact .inl ⟨x,Z7.2 ⟨hx,hs⟩,hp⟩
  ·exact .inr ⟨x,Z7.2 ⟨hx,hs⟩,hp⟩
 ·rintro (⟨x,hx,hp⟩|⟨x,hx,hp⟩)
  ·exact ⟨x,(Z7.1 hx).1,.inl (Z7.1 hx).2,hp⟩
  ·exact ⟨x,(Z7.1 hx).1,.inr (Z7.1 hx).2,hp⟩
def ZBH (x:ZE) (how:Int):ZE:=if how=4 then {x with Price:=1} else x
theorem ZRt (x:ZE) (how:Int):(ZBH x how).ID=x.ID∧(ZBH x how).Seq=x.Seq:=by unfold ZBH; split<;>exact ⟨rfl,rfl⟩
theorem ZT9 {x:ZE} {how:Int} (o:On h (c::l)) (w:Zh p xs c) (hs:ZC9 xs) (hl:xs.length≤1000) {Q:Bool→Hp→Prop} (hq:∀ c' h',On h' (c'::l)→Zh p xs c'→Q (ZD3 xs x how) h'):
 ZA TP 368 [Value.pointer p,ZK.enc x,Value.int .i64 how] cB h Q:=by
 refine c368 ?_
 unfold F368
 refine ZI o fun k1 h1 o1=>?_
 have o1:On h1 (ob k1 (ZK.enc x).cells.toList 74::c::l):=o1
 unfold ZD3 at hq
 refine ZN (fun t h'=>h'=h1∧t=decide (how<0∨4<how)) ?_ fun J3 hJ3=>?_
 ·rintro t h2 ⟨rfl,rfl⟩
  refine ZH (fun e=>?_) fun e=>?_
  ·rw [if_pos e] at hq
   exact hq c h2 o1.tail w
  ·rw [if_neg e] at hq
   refine ZN (fun _ h'=>On h' (ob k1 (ZK.enc (ZBH x how)).cells.toList 74::c::l)∧¬(how=4∧x.Price≠0)) ?_ fun J2 hJ2=>?_
   ·rintro _ h3 ⟨o3,hne⟩
    rw [if_neg hne] at hq
    refine ZI o3 fun k2 h4 o4=>?_
    have o4':On h4 (c::ob k2 [Value.int .i64 1,Value.int .i64 2] 3::ob k1 (ZK.enc (ZBH x how)).cells.toList 74::l):=o4.pick [2,0,1] 3 (by decide) (by decide)
    have hid:=ZRt x how
    refine Zb (fun z h'=>∃ (i:Nat) (c:Hp),z=(i:Int)∧i≤2∧On h' (c::ob k2 [Value.int .i64 1,Value.int .i64 2] 3::ob k1 (ZK.enc (ZBH x how)).cells.toList 74::l)∧Zh p xs c∧∀ j:Nat,j<i→(ZAZ xs ((j:Int)+1)).any (fun y=>y.ID==x.ID||y.Seq==x.Seq)=false) (fun z=>2-z.toNat)
     ⟨0,c,rfl,by omega,o4',w,fun j hj=>by omega⟩ ?_
    rintro J1 z h5 again ⟨i,c5,rfl,hi2,o5,w5,hno⟩
    have rr:Row (cI .i64) (ob k2 [Value.int .i64 1,Value.int .i64 2] 3) ⟨some ⟨k2,0,none⟩,2,2⟩ [1,2]:=Zf rfl rfl
    refine ZH (fun hlt=>?_) fun hge=>?_
    ·have hi:i<2:=by omega
     have a0:([1,2]:List Int)[i]?=some ((i:Int)+1):=by
      rcases Nat.lt_or_ge i 1 with h'|h'
      ·obtain rfl:i=0:=by omega
       rfl
      ·obtain rfl:i=1:=by omega
       rfl
     refine ZM rr (Int.natCast_nonneg i) (by simp; omega) fun a ha=>ZO rr (o5.mem (by simp)) rfl ha (i:=i) a0 (by simp) ?_
     refine ZDN (s:=(i:Int)+1) o5 w5 hs hl fun sl c6 d6 h6 o6 w6 wd6=>?_
     have hl6:=ZBl xs ((i:Int)+1)
     refine ZGJ (f:=⟨381,#[],#[.pointer (some ⟨k1,0,none⟩)]⟩) (ZYJ (k0:=k1) (y:=ZBH x how)) o6 (fun p hp=>by
      rw [List.mem_singleton.1 hp]
      exact List.mem_cons_of_mem _ (List.mem_cons_of_mem _ (List.mem_cons_of_mem _ List.mem_cons_self))) (g:=d6) (by simp) wd6.row (by omega) fun h7 o7=>?_
     rw [hid.1,hid.2]
     have o7':On h7 (c6::ob k2 [Value.int .i64 1,Value.int .i64 2] 3::ob k1 (ZK.enc (ZBH x how)).cells.toList 74::l):=o7.pick [0,2,3] 4 (by decide) (by decide)
     refine ZD (fun e7=>?_) fun e7=>?_
     ·have:(xs.any fun y=>ZBK y.Side&&(y.ID==x.ID||y.Seq==x.Seq))=true:=by
       rw [ZKm]
       rcases Nat.lt_or_ge i 1 with h'|h'
       ·obtain rfl:i=0:=by omega
        rw [show (((0:Nat):Int)+1)=1 from rfl] at e7
        rw [e7]; rfl
       ·obtain rfl:i=1:=by omega
        rw [show (((1:Nat):Int)+1)=2 from rfl] at e7
        rw [e7,Bool.or_true]
      rw [if_pos this] at hq
      exact hq c6 h7 (o7'.pick [0] 3 (by decide) (by decide)) w6
     ·have ei:IntKind.i64.wrap ((i:Int)+1)=((i+1:Nat):Int):=ZAH (by omega)
      rw [ei]
      refine again _ _ ⟨i+1,c6,rfl,by omega,o7',w6,fun j hj=>?_⟩ (by omega)
      rcases Nat.lt_or_ge j i with h'|h'
      ·exact hno j h'
      ·obtain rfl:j=i:=by omega
       exact e7
    ·obtain rfl:i=2:=by omega
     have h0:=hno 0 (by omega)
     have h1':=hno 1 (by omega)
     rw [show (((0:Nat):Int)+1)=1 from rfl] at h0
     rw [show (((1:Nat):Int)+1)=2 from rfl] at h1'
     have:¬(xs.any fun y=>ZBK y.Side&&(y.ID==x.ID||y.Seq==x.Seq))=true:=by rw [ZKm,h0,h1']; simp
     rw [if_neg this] at hq
     refine ZJ (cd:=ZK) (x:=ZBH x how) o5 2 rfl rfl ?_
     refine ZRy o5 fun pn cn h6 o6 w6=>?_
     refine ⟨⟨Hp.sub_rds (o6.get (i:=3) rfl) (ZCC rfl),trivial⟩,?_⟩
     refine ZQi (x:=ZBH x how) o6 w6 (by simp) fun c7 h7 o7 w7=>?_
     have hq:=hq c5 h7 (o7.pick [1] 4 (by decide) (by decide)) w5
     have e:((ZN9 [] (ZBH x how)).2==0)=Zs (if how=4 then {x with Price:=1} else x):=by
      show _=Zs (ZBH x how)
      unfold ZN9
      cases hb:Zs (ZBH x how)<;>simp
     rw [e]
     have hq':Q (Zs (if how=4 then {x with Price:=1} else x)) h7:=hq
     exact hq'
   ·refine ZD (fun e4=>?_) fun e4=>?_
    ·have e4:how=4:=by simpa using e4
     refine ZJ (x:=x.Price) o1 0 rfl rfl ?_
     refine ZD (fun e5=>?_) fun e5=>?_
     ·have e5:x.Price≠0:=by simpa using e5
      rw [if_pos ⟨e4,e5⟩] at hq
      exact hq c h2 o1.tail w
     ·have e5:x.Price=0:=by simpa using e5
      refine ZZ (cd:=cI .i64) (i:=4) (x:=(1:Int)) (vs':=(ZK.enc (ZBH x how)).cells.toList) o1 rfl ?_ (show 4+1≤6 by decide) fun h3 o3=>hJ2 _ _ ⟨o3,fun h=>h.2 e5⟩
      unfold ZBH
      rw [if_pos e4]
      rfl
    ·have e4:¬how=4:=by simpa using e4
     refine hJ2 _ _ ⟨?_,fun h=>e4 h.1⟩
     unfold ZBH
     rw [if_neg e4]
     exact o1
 ·refine ZQ (by obtain ⟨b,rfl⟩:=w.some; rfl) ?_
  refine ZH (fun e=>hJ3 _ _ ⟨rfl,(decide_eq_true (.inl e)).symm⟩) fun e=>hJ3 _ _ ⟨rfl,decide_eq_decide.2 (by omega)⟩
theorem ZTa {x:ZE} {how:Int} (o:On h (c::l)) (w:Zh p xs c) (hs:ZC9 xs) (hsm:ZH1 xs) (hl:xs.length≤1000) {Q:Int→Hp→Prop} (hq:∀ c' h',On h' (c'::l)→Zh p xs c'→Q (ZCr xs x how) h'):
 ZA TP 353 [Value.pointer p,ZK.enc x,Value.int .i64 how] (cI .i64) h Q:=by
 refine c353 ?_
 unfold F353
 unfold ZCr at hq
 refine ZT9 o w hs hl fun c1 h1 o1 w1=>?_
 refine ZD (fun e=>?_) fun e=>?_
 ·have e:ZD3 xs x how=false:=by simpa using e
  rw [if_pos e] at hq
  exact hq c1 h1 o1 w1
 have e:ZD3 xs x how=true:=by simpa using e
 rw [if_neg (by rw [e]; simp)] at hq
 refine ZN (fun t h'=>On h' (c1::l)∧t=decide (ZHU how=true∧64≤xs.length)) ?_ fun J3 hJ3=>?_
 ·rintro t h2 ⟨o2,rfl⟩
  refine ZH (fun e=>?_) fun e=>?_
  ·rw [if_pos e] at hq
   exact hq c1 h2 o2 w1
  rw [if_neg e] at hq
  refine ZN (fun t h'=>∃ c,On h' (c::l)∧Zh p xs c∧t=decide (how=3∧ZCX xs x how≠[])) ?_ fun J2 hJ2=>?_
  ·rintro t h3 ⟨c3,o3,w3,rfl⟩
   refine ZH (fun e=>?_) fun e=>?_
   ·rw [if_pos e] at hq
    exact hq c3 h3 o3 w3
   rw [if_neg e] at hq
   refine ZN (fun t h'=>∃ c,On h' (c::l)∧Zh p xs c∧t=decide (how=2∧ZNQ xs x how<x.Left)) ?_ fun J1 hJ1=>?_
   ·rintro t h4 ⟨c4,o4,w4,rfl⟩
    refine ZH (fun e=>?_) fun e=>?_
    ·rw [if_pos e] at hq
     exact hq c4 h4 o4 w4
    ·rw [if_neg e] at hq
     exact hq c4 h4 o4 w4
   ·refine ZD (fun e2=>?_) fun e2=>?_
    ·have e2:how=2:=by simpa using e2
     refine ZUh o3 w3 hs hsm hl fun c5 h5 o5 w5=>hJ1 _ _ ⟨c5,o5,w5,decide_eq_decide.2 ?_⟩
     exact ⟨fun h=>⟨e2,h⟩,fun h=>h.2⟩
    ·have e2:¬how=2:=by simpa using e2
     exact hJ1 _ _ ⟨c3,o3,w3,(decide_eq_false fun h=>e2 h.1).symm⟩
  ·refine ZD (fun e2=>?_) fun e2=>?_
   ·have e2:how=3:=by simpa using e2
    refine ZIt o2 w1 hs hl fun sl c5 d5 h5 o5 w5 r5=>hJ2 _ _ ⟨c5,o5.pick [0] 2 (by decide) (by decide),w5,decide_eq_decide.2 ?_⟩
    have hlen:=r5.1
    constructor
    ·intro hp
     refine ⟨e2,fun hn=>?_⟩
     rw [hn,List.length_nil] at hlen
     omega
    ·rintro ⟨_,hn⟩
     have:=List.length_pos_iff.2 hn
     omega
   ·have e2:¬how=3:=by simpa using e2
    exact hJ2 _ _ ⟨c1,o2,w1,(decide_eq_false fun h=>e2 h.1).symm⟩
 ·refine ZMf (ZD (fun e2=>?_) fun e2=>?_)
  ·refine ZWO (o1.mem (by simp)) w1 (hJ3 _ _ ⟨o1,decide_eq_decide.2 ?_⟩)
   exact ⟨fun h=>⟨e2,by omega⟩,fun h=>by omega⟩
  ·exact hJ3 _ _ ⟨o1,(decide_eq_false fun h=>by rw [h.1] at e2; cases e2).symm⟩
theorem ZUl {k:Nat} {x y:ZE} (o:On h (c::ob k (ZK.enc x).cells.toList 74::l)) (w:Zh p xs c) (hl:xs.length≤1000) (h1:0≤x.Left∧x.Left≤1000000) (h2:0≤y.Left∧y.Left≤1000000) {Q:ZJl→Hp→Prop}
 (hq:∀ c' h',On h' (c'::ob k (ZK.enc (ZBT x (x.Left-min x.Left y.Left))).cells.toList 74::l)→Zh p (if min x.Left y.Left=y.Left then ZBu xs y.ID else (ZDl xs y.ID (y.Left-min x.Left y.Left)).1) c'→Q (ZFd x y (min x.Left y.Left)) h'):
 ZA TP 355 [Value.pointer p,Value.pointer (some ⟨k,0,none⟩),ZK.enc y] ZDQ h Q:=by
 refine c355 ?_
 unfold F355
 dsimp only [ZR]
 refine ZJ (x:=x.Left) o 1 rfl rfl (ZJ (x:=x.Left) o 1 rfl rfl ?_)
 rw [ZQF,w64 (by omega) (by omega),w64 (by omega) (by omega)]
 refine ZZ (cd:=cI .i64) (i:=5) (x:=x.Left-min x.Left y.Left) (vs':=(ZK.enc (ZBT x (x.Left-min x.Left y.Left))).cells.toList) o.swap rfl rfl (show 5+1≤6 by decide) fun h3 o3=>?_
 refine ZN (fun _ h'=>∃ c',On h' (c'::ob k (ZK.enc (ZBT x (x.Left-min x.Left y.Left))).cells.toList 74::l)∧Zh p (if min x.Left y.Left=y.Left then ZBu xs y.ID else (ZDl xs y.ID (y.Left-min x.Left y.Left)).1) c') ?_ fun J hJ=>?_
 ·rintro _ h4 ⟨c4,o4,w4⟩
  refine ZJ (x:=x.ID) o4 1 rfl rfl (ZJ (x:=x.Owner) o4 1 rfl rfl ?_)
  exact hq c4 h4 o4 w4
 ·refine ZD (fun e=>?_) fun e=>?_
  ·have e:min x.Left y.Left=y.Left:=by simpa using e
   refine ZFM o3.swap w hl fun c5 h5 o5 w5=>hJ _ _ ⟨c5,o5,?_⟩
   rw [if_pos e]; exact w5
  ·have e:¬min x.Left y.Left=y.Left:=by simpa using e
   refine ZNH o3.swap w hl fun c5 h5 o5 w5=>hJ _ _ ⟨c5,o5,?_⟩
   rw [if_neg e]; exact w5
theorem ZKK (xs:List ZE) (id:Int):(ZBu xs id).length≤xs.length:=List.length_eraseP_le
theorem ZRS (xs:List ZE) (id left:Int):(ZDl xs id left).1.length=xs.length:=by
 unfold ZDl
 split
 ·rfl
 ·split
  ·rfl
  ·split
   ·rfl
   ·simp
theorem ZJ7 (c:ZCx) (x:ZE):(Zp c x).l.length≤c.l.length∧(Zp c x).fills.length≤c.fills.length+1∧(Zp c x).gone.length≤c.gone.length+1:=by
 unfold Zp
 split
 ·exact ⟨Nat.le_refl _,Nat.le_succ _,Nat.le_succ _⟩
 ·split
  ·exact ⟨ZKK _ _,Nat.le_succ _,by simp⟩
  ·refine ⟨?_,by simp,Nat.le_succ _⟩
   dsimp only
   split
   ·exact ZKK _ _
   ·rw [ZRS]; exact Nat.le_refl _
theorem ZFy {c:ZCx} {x:ZE} (h1:0≤c.o.Left∧c.o.Left≤1000000) (h2:0≤x.Left):0≤(Zp c x).o.Left∧(Zp c x).o.Left≤1000000:=by
 unfold Zp
 split
 ·exact h1
 ·split
  ·exact h1
  ·show 0≤c.o.Left-min c.o.Left x.Left∧c.o.Left-min c.o.Left x.Left≤1000000
   omega
theorem ZFr (c:ZCx) (x:ZE):(Zp c x).o.ID=c.o.ID∧(Zp c x).o.Seq=c.o.Seq∧(Zp c x).o.Owner=c.o.Owner∧(Zp c x).o.Side=c.o.Side∧(Zp c x).o.Price=c.o.Price:=by
 unfold Zp
 split
 ·exact ⟨rfl,rfl,rfl,rfl,rfl⟩
 ·split<;>exact ⟨rfl,rfl,rfl,rfl,rfl⟩
theorem ZJ8:∀ (ms:List ZE) (c:ZCx),c.o.Left=0→ms.foldl Zp c=c
 | [],_,_=>rfl
 | x::ms,c,h=>by
   have e:Zp c x=c:=by unfold Zp; rw [if_pos h]
   rw [List.foldl_cons,e]
   exact ZJ8 ms c h
theorem ZZO {x:ZE} {how:Int} (o:On h (c::l)) (w:Zh p xs c) (hs:ZC9 xs) (hsm:ZH1 xs) (hl:xs.length≤1000) {Q:Sl×Sl×Int×Int→Hp→Prop}
 (hq:∀ sf sg c' df dg h',On h' (c'::df::dg::l)→Zh p (doV xs x how).1 c'→Own ZDQ df sf (doV xs x how).2.1→Own ZH2 dg sg (doV xs x how).2.2.1→Q (sf,sg,(doV xs x how).2.2.2.1,(doV xs x how).2.2.2.2) h'):
 ZA TP 323 [Value.pointer p,ZK.enc x,Value.int .i64 how] (ZW [cSl,cSl,cI .i64,cI .i64]) h Q:=by
 refine c323 ?_
 unfold F323
 refine ZI o fun k1 h1 o1=>?_
 have o1:On h1 (ob k1 (ZK.enc x).cells.toList 74::c::l):=o1
 refine ZJ (cd:=ZK) (x:=x) o1 0 rfl rfl ?_
 unfold doV at hq
 refine ZTa (x:=x) o1.swap w hs hsm hl fun c2 h2 o2 w2=>?_
 refine ZD (fun e=>?_) fun e=>?_
 ·have e:ZCr xs x how≠0:=by simpa using e
  rw [if_pos e] at hq
  exact hq ⟨none,0,0⟩ ⟨none,0,0⟩ c2 Hp.emp Hp.emp h2 ((o2.emp.emp).pick [2,0,1] 4 (by decide) (by decide)) w2 (Own.nil _) (Own.nil _)
 have e:¬ZCr xs x how≠0:=by simpa using e
 rw [if_neg e] at hq
 -- a right one: how much it is
 have hx:1≤x.Left∧x.Left≤1000000:=by
  have e:ZCr xs x how=0:=Classical.not_not.1 e
  unfold ZCr at e
  split at e
  ·cases e
  ·rename_i hn
   have hn:ZD3 xs x how=true:=by cases hb:ZD3 xs x how with|true=>rfl|false=>exact absurd hb hn
   unfold ZD3 at hn
   split at hn
   ·cases hn
   split at hn
   ·cases hn
   split at hn
   ·cases hn
   have hb:Zs (ZBH x how)=true:=hn
   have hl2:(ZBH x how).Left=x.Left:=by unfold ZBH; split<;>rfl
   unfold Zs at hb
   simp only [Bool.and_eq_true,decide_eq_true_eq] at hb
   rw [hl2] at hb
   exact ⟨hb.2.2.2.2.1,hb.2.2.2.2.2.1⟩
 refine ZJ (cd:=ZK) (x:=x) o2 1 rfl rfl ?_
 refine ZIt (x:=x) o2 w2 hs hl fun sl c3 d3 h3 o3 w3 r3=>?_
 have hlen:=r3.1
 have hml:=ZFt (xs:=xs) x how
 have hmm:∀ y∈ZCX xs x how,1≤y.Left∧y.Left≤1000000:=fun y hy=>⟨(hsm y (ZCS hy)).1,(hsm y (ZCS hy)).2.1⟩
 unfold ZBF at hq
 generalize ZCX xs x how=ms at hq r3 hlen hml hmm
 have o3':On h3 (c3::ob k1 (ZK.enc x).cells.toList 74::Hp.emp::Hp.emp::d3::l):=o3.emp.emp.pick [2,4,0,1,3] 5 (by decide) (by decide)
 refine ZN (fun z h'=>∃ (c df dg:Hp),On h' (c::ob k1 (ZK.enc (ms.foldl Zp ⟨xs,x,[],[]⟩).o).cells.toList 74::df::dg::d3::l)∧Zh p (ms.foldl Zp ⟨xs,x,[],[]⟩).l c∧Own ZDQ df z.1 (ms.foldl Zp ⟨xs,x,[],[]⟩).fills∧Own ZH2 dg z.2 (ms.foldl Zp ⟨xs,x,[],[]⟩).gone∧(ms.foldl Zp ⟨xs,x,[],[]⟩).l.length≤xs.length) ?_ fun J3 hJ3=>?_
 ·rintro ⟨zf,zg⟩ h4 ⟨c4,df,dg,o4,w4,wf,wg,hll⟩
  dsimp only at wf wg ⊢
  generalize ms.foldl Zp ⟨xs,x,[],[]⟩=cr at hq o4 w4 wf wg hll
  refine ZN (fun _ h'=>∃ c,On h' (c::ob k1 (ZK.enc cr.o).cells.toList 74::df::dg::d3::l)∧Zh p (if ZHU how=true∧0<cr.o.Left then (ZN9 cr.l cr.o).1 else cr.l) c) ?_ fun J1 hJ1=>?_
  ·rintro _ h5 ⟨c5,o5,w5⟩
   refine ZJ (x:=cr.o.Left) o5 1 rfl rfl ?_
   exact hq zf zg c5 df dg h5 (o5.pick [0,2,3] 5 (by decide) (by decide)) w5 wf wg
  ·refine ZN (fun t h'=>On h' (c4::ob k1 (ZK.enc cr.o).cells.toList 74::df::dg::d3::l)∧t=decide (ZHU how=true∧0<cr.o.Left)) ?_ fun J2 hJ2=>?_
   ·rintro t h5 ⟨o5,rfl⟩
    refine ZH (fun e=>?_) fun e=>?_
    ·rw [if_pos e] at hJ1
     refine ZJ (cd:=ZK) (x:=cr.o) o5 1 rfl rfl ?_
     refine ZQi (x:=cr.o) o5 w4 (by omega) fun c6 h6 o6 w6=>hJ1 _ _ ⟨c6,o6,w6⟩
    ·rw [if_neg e] at hJ1
     exact hJ1 _ _ ⟨c4,o5,w4⟩
   ·refine ZMf (ZD (fun e=>?_) fun e=>?_)
    ·refine ZJ (x:=cr.o.Left) o4 1 rfl rfl ?_
     refine hJ2 _ _ ⟨o4,decide_eq_decide.2 ⟨fun h=>⟨e,h⟩,fun h=>h.2⟩⟩
    ·exact hJ2 _ _ ⟨o4,(decide_eq_false fun h=>by rw [h.1] at e; cases e).symm⟩
 ·refine Zb (fun z h'=>∃ (i:Nat) (c df dg:Hp),z.2.2=(i:Int)∧i≤ms.length∧On h' (c::ob k1 (ZK.enc ((ms.take i).foldl Zp ⟨xs,x,[],[]⟩).o).cells.toList 74::df::dg::d3::l)∧Zh p ((ms.take i).foldl Zp ⟨xs,x,[],[]⟩).l c∧
   Own ZDQ df z.1 ((ms.take i).foldl Zp ⟨xs,x,[],[]⟩).fills∧Own ZH2 dg z.2.1 ((ms.take i).foldl Zp ⟨xs,x,[],[]⟩).gone∧((ms.take i).foldl Zp ⟨xs,x,[],[]⟩).l.length≤xs.length∧((ms.take i).foldl Zp ⟨xs,x,[],[]⟩).fills.length≤i∧((ms.take i).foldl Zp ⟨xs,x,[],[]⟩).gone.length≤i∧
   0≤((ms.take i).foldl Zp ⟨xs,x,[],[]⟩).o.Left∧((ms.take i).foldl Zp ⟨xs,x,[],[]⟩).o.Left≤1000000) (fun z=>ms.length-z.2.2.toNat)
   ⟨0,c3,Hp.emp,Hp.emp,rfl,Nat.zero_le _,o3',w3,Own.nil _,Own.nil _,Nat.le_refl _,Nat.le_refl _,Nat.le_refl _,by show 0≤x.Left; omega,hx.2⟩ ?_
  rintro J4 ⟨zf,zg,zi⟩ h4 again ⟨i,c4,df,dg,hzi,hle,o4,w4,wf,wg,b1,b2,b3,b4,b5⟩
  dsimp only at hzi wf wg
  subst hzi
  dsimp only
  refine ZH (fun hlt=>?_) fun hge=>?_
  ·have hi:i<ms.length:=by omega
   have a0:ms[i]?=some ms[i]:=List.getElem?_eq_getElem hi
   have hy:=hmm _ (List.mem_of_getElem? a0)
   have estep:=Z5 Zp ⟨xs,x,[],[]⟩ ms a0
   have efull:ms.foldl Zp ⟨xs,x,[],[]⟩=(ms.drop i).foldl Zp ((ms.take i).foldl Zp ⟨xs,x,[],[]⟩):=by rw [←List.foldl_append,List.take_append_drop]
   generalize ms[i]=y at a0 hy estep
   have ei:IntKind.i64.wrap ((i:Int)+1)=((i+1:Nat):Int):=ZAH (by omega)
   rw [ei]
   have hml1:=ZJ7 ((ms.take i).foldl Zp ⟨xs,x,[],[]⟩) y
   have hml2:=ZFy (c:=(ms.take i).foldl Zp ⟨xs,x,[],[]⟩) (x:=y) ⟨b4,b5⟩ (by omega)
   rw [←estep] at hml1 hml2
   generalize (ms.take i).foldl Zp ⟨xs,x,[],[]⟩=cr at o4 w4 wf wg b1 b2 b3 b4 b5 estep efull hml1
   refine ZN (fun z h'=>∃ (c df dg:Hp),On h' (c::ob k1 (ZK.enc (Zp cr y).o).cells.toList 74::df::dg::d3::l)∧Zh p (Zp cr y).l c∧Own ZDQ df z.1 (Zp cr y).fills∧Own ZH2 dg z.2 (Zp cr y).gone) ?_ fun J5 hJ5=>?_
   ·rintro ⟨z1,z2⟩ h5 ⟨c5,df5,dg5,o5,w5,wf5,wg5⟩
    rw [←estep] at o5 w5 wf5 wg5
    exact again _ _ ⟨i+1,c5,df5,dg5,rfl,by omega,o5,w5,wf5,wg5,by omega,by omega,by omega,hml2.1,hml2.2⟩ (by dsimp only; omega)
   ·refine ZM r3 (Int.natCast_nonneg i) (by omega) fun a ha=>ZO r3 (o4.mem (by simp)) rfl ha (i:=i) a0 (by rfl) ?_
    refine ZJ (x:=cr.o.Left) o4 1 rfl rfl ?_
    refine ZD (fun e0=>?_) fun e0=>?_
    ·have e0:cr.o.Left=0:=by simpa using e0
     rw [ZJ8 _ _ e0] at efull
     refine hJ3 (zf,zg) h4 ⟨c4,df,dg,?_⟩
     rw [efull]
     exact ⟨o4,w4,wf,wg,b1⟩
    ·have e0:¬cr.o.Left=0:=by simpa using e0
     unfold Zp at hJ5
     rw [if_neg e0] at hJ5
     refine ZJ (x:=cr.o.Owner) o4 1 rfl rfl ?_
     refine ZD (fun e1=>?_) fun e1=>?_
     ·have e1:y.Owner=cr.o.Owner:=by simpa using e1
      rw [if_pos e1] at hJ5
      refine ZFM o4 w4 (by omega) fun c5 h5 o5 w5=>?_
      refine ZI o5 fun k6 h6 o6=>?_
      have r6:Row ZH2 (ob k6 [Value.int .i64 y.ID,Value.int .i64 y.Owner,Value.int .i64 y.Left] 394) ⟨some ⟨k6,0,none⟩,1,1⟩ [⟨y.ID,y.Owner,y.Left⟩]:=Zf rfl rfl
      have o6':On h6 (dg::ob k6 [Value.int .i64 y.ID,Value.int .i64 y.Owner,Value.int .i64 y.Left] 394::c5::ob k1 (ZK.enc cr.o).cells.toList 74::df::d3::l):=o6.pick [4,0,1,2,3,5] 6 (by decide) (by decide)
      refine ZV (g:=ob k6 [Value.int .i64 y.ID,Value.int .i64 y.Owner,Value.int .i64 y.Left] 394) (s:=zg) (t:=⟨some ⟨k6,0,none⟩,1,1⟩) o6' rfl wg (by decide) r6 (o6'.mem (by simp)) (by unfold ZAI; simp; omega) fun d7 p7 n7 m7 h7 o7 w7=>?_
      exact hJ5 (zf,⟨p7,n7,m7⟩) h7 ⟨c5,df,d7,o7.pick [2,3,4,0,5] 6 (by decide) (by decide),w5,wf,w7⟩
     ·have e1:¬y.Owner=cr.o.Owner:=by simpa using e1
      rw [if_neg e1] at hJ5
      refine ZUl (x:=cr.o) (y:=y) o4 w4 (by omega) ⟨b4,b5⟩ ⟨by omega,by omega⟩ fun c5 h5 o5 w5=>?_
      refine ZI o5 fun k6 h6 o6=>?_
      have r6:Row ZDQ (ob k6 (ZDQ.enc (ZFd cr.o y (min cr.o.Left y.Left))).cells.toList 396) ⟨some ⟨k6,0,none⟩,1,1⟩ [ZFd cr.o y (min cr.o.Left y.Left)]:=Zf rfl rfl
      have o6':On h6 (df::ob k6 (ZDQ.enc (ZFd cr.o y (min cr.o.Left y.Left))).cells.toList 396::c5::ob k1 (ZK.enc (ZBT cr.o (cr.o.Left-min cr.o.Left y.Left))).cells.toList 74::dg::d3::l):=On.pick (l:=ob k6 (ZDQ.enc (ZFd cr.o y (min cr.o.Left y.Left))).cells.toList 396::c5::ob k1 (ZK.enc (ZBT cr.o (cr.o.Left-min cr.o.Left y.Left))).cells.toList 74::df::dg::d3::l) o6 [3,0,1,2,4,5] 6 (by decide) (by decide)
      refine ZV (g:=ob k6 (ZDQ.enc (ZFd cr.o y (min cr.o.Left y.Left))).cells.toList 396) (s:=zf) (t:=⟨some ⟨k6,0,none⟩,1,1⟩) o6' rfl wf (by decide) r6 (o6'.mem (by simp)) (by unfold ZAI; simp; omega) fun d7 p7 n7 m7 h7 o7 w7=>?_
      exact hJ5 (⟨p7,n7,m7⟩,zg) h7 ⟨c5,d7,dg,o7.pick [2,3,0,4,5] 6 (by decide) (by decide),w5,w7,wg⟩
  ·have:i=ms.length:=by omega
   subst this
   rw [List.take_length] at o4 w4 wf wg b1
   exact hJ3 (zf,zg) h4 ⟨c4,df,dg,o4,w4,wf,wg,b1⟩
end
theorem ZNg {x y c:Nat} (hc:c≤1) {h:Hp} {K:Int×Int→Prop} (hk:K ((((x+y+c) % 18446744073709551616:Nat):Int),(((x+y+c) / 18446744073709551616:Nat):Int))):
 ZNT TP 378 [Value.int .u64 x,Value.int .u64 y,Value.int .u64 c] (ZW [cI .u64,cI .u64]) h K:=by
 refine ⟨_,fun w _=>?_,hk⟩
 rw [run_callFunc_extern (P:=Tryz.prog) (f:=378) (fn:=Tryz.f378) (by kernel_rfl) (by kernel_rfl) (by kernel_rfl) (by kernel_rfl) (e:=add64Entry) (by kernel_rfl),run_add64 x y c (by omega) (by omega) (by omega) (by omega)]
 simp only [Result.andThen]
 congr 2
theorem ZJe {f:FuncId} {fn:Func} {tS e:TypeId} {size:Nat} (hf:Tryz.prog.funcs[f]?=some fn) (h1:(fn.name == "runtime.NumGoroutine")=false) (h2:fn.body.isNone=true) (h3:Extern.findNext fn=none)
 (h4:Extern.find fn=some (Extern.SlicesOverlaps.overlaps #[tS,tS] #[4])) (ht:Tryz.prog.underlying tS=some (.slice e)) (hz:∀ w,(Go.sizeOf e).run TP w=.ok size w)
 {h:Hp} {k b la ca lb cb off:Nat} {vs us:List Value} {e1 e2:TypeId} {fz:Nat×Nat} (hk:(ob k vs e1).sub h) (hb:h b=some (.cells us.toArray e2 fz)) (hne:k≠b) (hu:us≠[]) {K:Bool→Prop} (hq:K false):
 ZNT TP f [Value.slice (some ⟨k,0,none⟩) la ca,Value.slice (some ⟨b,off,none⟩) lb cb] cB h K:=by
 refine ⟨false,fun w hw=>?_,hq⟩
 rw [run_callFunc_extern hf h1 h2 h3 h4]
 have ek:=hw k _ (hk k _ (ZJR k vs e1))
 have eb:=hw b _ hb
 rw [Lib.run_overlaps_apart w tS 4 e ht size hz ⟨k,0,none⟩ ⟨b,off,none⟩ la ca lb cb hne e1 e2 vs.length us.length (by simp [World.shape?,ek]) (by simp [World.shape?,eb]) (by cases us<;>simp_all) (by simp [World.frozen?,ek]) (by simp [World.frozen?,ek])]
 rfl
theorem ZFo {cd:Cdc} {ov rot:FuncId} {e e2:TypeId} {bytes z:Nat} {zero:cd.T} {c h:Hp} {l:List Hp} {s:Sl} {xs:List cd.T} {k i:Nat} {x:cd.T}
 (o:On h (c::ob k (cd.enc x).cells.toList e2::l)) (w:Own cd c s xs) (hm:cd.mem=true) (hn:0<cd.n) (hz:z=cd.n) (hi:i≤xs.length) (hl:xs.length≤1000000) (hb:bytes≤1024)
 (hov:∀ (b off la ca lb cb:Nat) (us:List Value) (e3:TypeId) (fz:Nat×Nat) (K:Bool→Prop),h b=some (.cells us.toArray e3 fz)→k≠b→us≠[]→K false→ZNT TP ov [Value.slice (some ⟨k,0,none⟩) la ca,Value.slice (some ⟨b,off,none⟩) lb cb] cB h K)
 {Q:Sl→Hp→Prop} (hq:∀ s' c' h',On h' (c'::l)→Own cd c' s' (xs.take i++x::xs.drop i)→Q s' h'):
 ZAD s.len s.cap (some (i:Int)) none fun k1 k2=>
 ZB ((1:Int)==0) (Q s h)
   (ZB ((i:Int)==(s.len:Int)) (ZY cd e bytes s.a s.len s.cap (some ⟨k,0,none⟩) 1 h fun p1 k3 k4 h1=>Q {a:=p1,len:=k3,cap:=k4} h1)
     (ZB (decide (IntKind.i64.wrap ((s.len:Int)+(1:Int))>(s.cap:Int)))
       (ZAD s.len s.cap none (some (i:Int)) fun k5 k6=>
         ZGw cd zero e bytes (Zj s.a k5 s.cap z) (k6-k5) (s.cap-k5) (IntKind.i64.wrap (IntKind.i64.wrap ((s.len:Int)+(1:Int))-(i:Int))) h fun p2_1 k7 k8 h2=>
           ZAD k7 k8 (some (i:Int)) none fun k9 k10=>
             ZA6 cd (Zj p2_1 k9 k8 z) (k10-k9) (some ⟨k,0,none⟩) 1 h2 fun n1 h3=>
              ZAD k7 k8 (some (IntKind.i64.wrap ((i:Int)+(1:Int)))) none fun k11 k12=>
               ZAD s.len s.cap (some (i:Int)) none fun k13 k14=>ZA6 cd (Zj p2_1 k11 k8 z) (k12-k11) (Zj s.a k13 s.cap z) (k14-k13) h3 fun n2 h4=>Q {a:=p2_1,len:=k7,cap:=k8} h4)
       (ZAD s.len s.cap none (some (IntKind.i64.wrap ((s.len:Int)+(1:Int)))) fun k15 k16=>
         ZAD (k16-k15) (s.cap-k15) (some (IntKind.i64.wrap ((i:Int)+(1:Int)))) none fun k17 k18=>
           ZNT TP ov [Value.slice (some ⟨k,0,none⟩) 1 1,Value.slice (Zj (Zj s.a k15 s.cap z) k17 (s.cap-k15) z) (k18-k17) (s.cap-k15-k17)] cB h fun t1=>
             ZB (!t1)
               (ZAD (k16-k15) (s.cap-k15) (some (IntKind.i64.wrap ((i:Int)+(1:Int)))) none fun k19 k20=>
                 ZAD (k16-k15) (s.cap-k15) (some (i:Int)) none fun k21 k22=>
                   ZA6 cd (Zj (Zj s.a k15 s.cap z) k19 (s.cap-k15) z) (k20-k19) (Zj (Zj s.a k15 s.cap z) k21 (s.cap-k15) z) (k22-k21) h fun n3 h5=>
                     ZAD (k16-k15) (s.cap-k15) (some (i:Int)) none fun k23 k24=>
                       ZA6 cd (Zj (Zj s.a k15 s.cap z) k23 (s.cap-k15) z) (k24-k23) (some ⟨k,0,none⟩) 1 h5 fun n4 h6=>Q {a:=Zj s.a k15 s.cap z,len:=k16-k15,cap:=s.cap-k15} h6)
               (ZAD (k16-k15) (s.cap-k15) (some (s.len:Int)) none fun k25 k26=>
                 ZA6 cd (Zj (Zj s.a k15 s.cap z) k25 (s.cap-k15) z) (k26-k25) (some ⟨k,0,none⟩) 1 h fun n5 h7=>
                   ZAD (k16-k15) (s.cap-k15) (some (i:Int)) none fun k27 k28=>
                     ZA TP rot [Value.slice (Zj (Zj s.a k15 s.cap z) k27 (s.cap-k15) z) (k28-k27) (s.cap-k15-k27),Value.int IntKind.i64 (1:Int)] (ZW []) h7 fun u1 h8=>
                 Q {a:=Zj s.a k15 s.cap z,len:=k16-k15,cap:=s.cap-k15} h8)))):=by
 have hlen:s.len=xs.length:=w.1
 have hcap:=w.le_cap hn
 have hx:Row cd (ob k (cd.enc x).cells.toList e2) ⟨some ⟨k,0,none⟩,1,1⟩ [x]:=Zf (by simp [ZG]) rfl
 have e1:IntKind.i64.wrap ((i:Int)+1)=((i+1:Nat):Int):=ZAH (by omega)
 have e2':IntKind.i64.wrap ((s.len:Int)+1)=((s.len+1:Nat):Int):=ZAH (by omega)
 rw [e1,e2']
 refine ⟨by omega,by omega,?_⟩
 refine ZQ rfl ?_
 refine ZD (fun he=>?_) fun hne=>?_
 ·have he:i=xs.length:=by
   have:(i:Int)=(s.len:Int):=by simpa using he
   omega
  subst he
  refine ZV (g:=ob k (cd.enc x).cells.toList e2) (t:=⟨some ⟨k,0,none⟩,1,1⟩) (ys:=[x]) o hm w hn hx (o.mem (by simp)) ?_ fun c1 p n m h1 o1 w1=>?_
  ·exact Nat.le_trans (Nat.mul_le_mul (Nat.succ_le_succ hl) hb) (by unfold ZAI; omega)
  ·exact hq ⟨p,n,m⟩ c1 h1 (o1.sublist (List.Sublist.cons_cons _ (List.sublist_cons_self _ _))) (by simpa using w1)
 ·have hlt:i<xs.length:=by
   have:¬(i:Int)=(s.len:Int):=by simpa using hne
   omega
  have ha0:s.a≠none:=by
   intro ha
   have:=w.2
   rw [ha] at this
   rw [this.2] at hlt
   simp at hlt
  obtain ⟨a,ha⟩:=Option.ne_none_iff_exists'.1 ha0
  have htl:(xs.take i).length=i:=by rw [List.length_take]; omega
  have hdl:(xs.drop i).length=xs.length-i:=List.length_drop
  have hdrop:∀ cap',Row cd c ⟨Zj s.a i s.cap z,s.len-i,cap'⟩ (xs.drop i):=fun cap'=>by
   have:=(w.row).cut (k:=i) (m:=s.len) (cap':=cap') (by omega) (by omega) hcap hm (z:=z) hz
   rw [hlen,List.take_of_length_le (by simp)] at this
   rwa [hlen]
  refine ZH (fun hgt=>?_) fun hle=>?_
  ·have hgt:s.cap<s.len+1:=by omega
   refine ⟨by omega,by omega,?_⟩
   simp only [Int.toNat_natCast,Nat.sub_zero]
   rw [ZIB]
   have en:IntKind.i64.wrap (((s.len+1:Nat):Int)-(i:Int))=((s.len+1-i:Nat):Int):=by rw [w64 (by omega) (by omega)]; omega
   rw [en]
   have r0:Row cd c ⟨s.a,i,s.cap⟩ (xs.take i):=(w.head hm (by omega)).row
   refine ZUy (g:=c) o (o.mem (by simp)) r0 (by omega) (by omega) ?_ fun nb nc d h2 o2 w2 hnc=>?_
   ·exact Nat.le_trans (Nat.mul_le_mul (show i+(((s.len+1-i:Nat):Int)).toNat≤1000001 by omega) hb) (by unfold ZAI; omega)
   ·have en2:i+(((s.len+1-i:Nat):Int)).toNat=s.len+1:=by omega
    rw [en2] at hnc ⊢
    refine ⟨by omega,by omega,?_⟩
    have ec:∀ j,j<nc→Zj (some ⟨nb,0,none⟩) j nc z=some ((⟨nb,0,none⟩:Addr).add (j*cd.n)):=fun j hj=>by
         unfold Zj
         rw [if_neg (by omega),hz]
         rfl
    simp only [Int.toNat_natCast]
    rw [ec i (by omega)]
    have key:=ZHu (g:=ob k (cd.enc x).cells.toList e2) (s:=⟨some ⟨nb,0,none⟩,i,nc⟩) (dlen:=s.len+1-i) (n:=1) (cap0:=1) (ys:=[x]) (src:=some ⟨k,0,none⟩) o2 hm w2 (a:=⟨nb,0,none⟩) rfl (by rw [show min 1 (s.len+1-i)=1 by omega]; exact hx) (o2.mem (by simp)) (by rw [htl]; simp only [List.length_singleton]; omega)
         (K:=fun n1 h3=>ZAD (s.len+1) nc (some ((i+1:Nat):Int)) none fun k11 k12=>ZAD s.len s.cap (some (i:Int)) none fun k13 k14=>ZA6 cd (Zj (some ⟨nb,0,none⟩) k11 nc z) (k12-k11) (Zj s.a k13 s.cap z) (k14-k13) h3 fun n2 h4=>Q {a:=some ⟨nb,0,none⟩,len:=s.len+1,cap:=nc} h4) fun c3 h3 o3 w3=>?_
    ·rw [htl] at key
     exact key
    ·refine ⟨by omega,by omega,by omega,by omega,?_⟩
     simp only [Int.toNat_natCast]
     rw [ec (i+1) (by omega)]
     have hl3:(xs.take i++[x]).length=i+1:=by rw [List.length_append,htl]; rfl
     have key2:=ZHu (g:=c) (s:=⟨some ⟨nb,0,none⟩,(xs.take i).length+[x].length,nc⟩) (dlen:=s.len+1-(i+1)) (n:=s.len-i) (cap0:=s.cap) (ys:=xs.drop i) (src:=Zj s.a i s.cap z) o3 hm w3 (a:=⟨nb,0,none⟩) rfl (by rw [show min (s.len-i) (s.len+1-(i+1))=s.len-i by omega]; exact hdrop _) (o3.mem (by simp)) (by rw [hl3,hdl]; dsimp only; omega)
          (K:=fun n2 h4=>Q {a:=some ⟨nb,0,none⟩,len:=s.len+1,cap:=nc} h4) fun c4 h4 o4 w4=>?_
     ·rw [hl3] at key2
      exact key2
     ·rw [hl3,hdl,show i+1+(xs.length-i)=s.len+1 by omega,List.append_assoc] at w4
      exact hq _ c4 h4 (o4.sublist (List.Sublist.cons_cons _ ((List.sublist_cons_self _ _).trans (List.sublist_cons_self _ _)))) w4
  ·have hcap1:s.len+1≤s.cap:=by omega
   refine ⟨by omega,by omega,?_⟩
   simp only [Int.toNat_natCast,Nat.sub_zero]
   rw [ZIB]
   refine ⟨by omega,by omega,?_⟩
   simp only [Int.toNat_natCast]
   have ec:∀ j,j<s.cap→Zj s.a j s.cap z=some (a.add (j*cd.n)):=fun j hj=>by
    unfold Zj
    rw [if_neg (by omega),hz,ha]
    rfl
   rw [ec (i+1) (by omega)]
   have hwa:=w.2
   rw [ha] at hwa
   obtain ⟨hsp,pre,rest,ZBf,e3,fz,hus,hpl,hrl,_⟩:=hwa
   rw [ZA7 hsp]
   refine hov a.block (a.off+(i+1)*cd.n) _ _ _ _ (pre++(ZG cd xs++(rest++ZBf))) e3 fz _ ?_ ?_ ?_ ?_
   ·exact o.mem (c:=c) (by simp) _ _ hus
   ·intro hk
    have:=(o.apart (d:=ob k (cd.enc x).cells.toList e2) (by simp)) a.block
    rw [hus] at this
    rw [←hk,ZJR] at this
    simp at this
   ·intro hnil
    have hr0:rest.length=0:=by
         have:=congrArg List.length hnil
         simp only [List.length_append,List.length_nil] at this
         omega
    rw [hr0,Nat.add_zero] at hrl
    have:=Nat.eq_of_mul_eq_mul_right hn hrl
    omega
   ·refine Zd rfl ?_
    refine ⟨by omega,by omega,by omega,by omega,?_⟩
    simp only [Int.toNat_natCast]
    rw [ec (i+1) (by omega)]
    have w0:Own cd c ⟨s.a,i+1,s.cap⟩ (xs.take (i+1)):=w.head hm (by omega)
    have htl1:(xs.take (i+1)).length=i+1:=by rw [List.length_take]; omega
    have key:=ZHu (g:=c) (s:=⟨s.a,i+1,s.cap⟩) (dlen:=s.len+1-(i+1)) (n:=s.len+1-i) (cap0:=s.cap) (ys:=xs.drop i) (src:=Zj s.a i s.cap z) o hm w0 (a:=a) ha (by rw [show min (s.len+1-i) (s.len+1-(i+1))=s.len-i by omega]; exact hdrop _) (o.mem (by simp)) (by rw [htl1,hdl]; dsimp only; omega)
         (K:=fun n3 h5=>ZAD (s.len+1) s.cap (some (i:Int)) none fun k23 k24=>ZA6 cd (Zj s.a k23 s.cap z) (k24-k23) (some ⟨k,0,none⟩) 1 h5 fun n4 h6=>Q {a:=s.a,len:=s.len+1,cap:=s.cap} h6) fun c3 h3 o3 w3=>?_
    ·rw [htl1] at key
     exact key
    ·refine ⟨by omega,by omega,?_⟩
     simp only [Int.toNat_natCast]
     rw [ec i (by omega)]
     rw [htl1,hdl,show i+1+(xs.length-i)=s.len+1 by omega] at w3
     refine ZNO (g:=ob k (cd.enc x).cells.toList e2) (cap0:=1) (ys:=[x]) o3 hm w3 (a:=a) ha (by rw [show min 1 (s.len+1-i)=1 by omega]; exact hx) (o3.mem (by simp)) (by rw [List.length_append,htl1,hdl]; simp only [List.length_singleton]; omega) fun c4 h4 o4 w4=>?_
     refine hq _ c4 h4 (o4.sublist (List.Sublist.cons_cons _ (List.sublist_cons_self _ _))) ?_
     have e5:(xs.take (i+1)++xs.drop i).take i=xs.take i:=by
          rw [List.take_append_of_le_length (by omega),List.take_take]
          congr 1; omega
     have e6:(xs.take (i+1)++xs.drop i).drop (i+[x].length)=xs.drop i:=by
          rw [List.drop_append_of_le_length (by rw [htl1]; simp),List.drop_eq_nil_of_le (by rw [htl1]; simp),List.nil_append]
     rw [e5,e6] at w4
     exact w4
section
variable {h:Hp} {l:List Hp} {c:Hp} {s:Sl} {k i:Nat}
theorem ZOV {xs:List Ask} {x:Ask} {e2:TypeId} (o:On h (c::ob k (ZAM.enc x).cells.toList e2::l)) (w:Own ZAM c s xs) (hi:i≤xs.length) (hl:xs.length≤1000000) {Q:Sl→Hp→Prop} (hq:∀ s' c' h',On h' (c'::l)→Own ZAM c' s' (xs.take i++x::xs.drop i)→Q s' h'):
 ZA TP 297 [Value.slice s.a s.len s.cap,Value.int .i64 i,Value.slice (some ⟨k,0,none⟩) 1 1] cSl h Q:=by
 refine c297 (p0:=s) (p1:=i) (p2:=⟨some ⟨k,0,none⟩,1,1⟩) ?_
 unfold F297
 refine ZFo (cd:=ZAM) (z:=10) (zero:=⟨0,0,0,0,0,0,0,0,0,0⟩) o w rfl (by decide) rfl hi hl (by decide) (fun b off la ca lb cb us e3 fz K hb hne hu hq=>?_) hq
 exact ZJe (fn:=Tryz.f341) (tS:=46) (e:=50) (size:=10) (by kernel_rfl) (by kernel_rfl) (by kernel_rfl) (by kernel_rfl) (by kernel_rfl) (by kernel_rfl) (fun w=>by kernel_rfl) (o.mem (c:=ob k (ZAM.enc x).cells.toList e2) (by simp)) hb hne hu hq
theorem ZOH {xs:List Za} {x:Za} {e2:TypeId} (o:On h (c::ob k (ZT.enc x).cells.toList e2::l)) (w:Own ZT c s xs) (hi:i≤xs.length) (hl:xs.length≤1000000) {Q:Sl→Hp→Prop} (hq:∀ s' c' h',On h' (c'::l)→Own ZT c' s' (xs.take i++x::xs.drop i)→Q s' h'):
 ZA TP 282 [Value.slice s.a s.len s.cap,Value.int .i64 i,Value.slice (some ⟨k,0,none⟩) 1 1] cSl h Q:=by
 refine c282 (p0:=s) (p1:=i) (p2:=⟨some ⟨k,0,none⟩,1,1⟩) ?_
 unfold F282
 refine ZFo (cd:=ZT) (z:=6) (zero:=⟨0,0,0,0,0,false⟩) o w rfl (by decide) rfl hi hl (by decide) (fun b off la ca lb cb us e3 fz K hb hne hu hq=>?_) hq
 exact ZJe (fn:=Tryz.f324) (tS:=124) (e:=207) (size:=6) (by kernel_rfl) (by kernel_rfl) (by kernel_rfl) (by kernel_rfl) (by kernel_rfl) (by kernel_rfl) (fun w=>by kernel_rfl) (o.mem (c:=ob k (ZT.enc x).cells.toList e2) (by simp)) hb hne hu hq
theorem ZOp {xs:List Due} {x:Due} {e2:TypeId} (o:On h (c::ob k (ZBY.enc x).cells.toList e2::l)) (w:Own ZBY c s xs) (hi:i≤xs.length) (hl:xs.length≤1000000) {Q:Sl→Hp→Prop} (hq:∀ s' c' h',On h' (c'::l)→Own ZBY c' s' (xs.take i++x::xs.drop i)→Q s' h'):
 ZA TP 285 [Value.slice s.a s.len s.cap,Value.int .i64 i,Value.slice (some ⟨k,0,none⟩) 1 1] cSl h Q:=by
 refine c285 (p0:=s) (p1:=i) (p2:=⟨some ⟨k,0,none⟩,1,1⟩) ?_
 unfold F285
 refine ZFo (cd:=ZBY) (z:=3) (zero:=⟨0,0,0⟩) o w rfl (by decide) rfl hi hl (by decide) (fun b off la ca lb cb us e3 fz K hb hne hu hq=>?_) hq
 exact ZJe (fn:=Tryz.f328) (tS:=129) (e:=197) (size:=3) (by kernel_rfl) (by kernel_rfl) (by kernel_rfl) (by kernel_rfl) (by kernel_rfl) (by kernel_rfl) (fun w=>by kernel_rfl) (o.mem (c:=ob k (ZBY.enc x).cells.toList e2) (by simp)) hb hne hu hq
end
theorem ZRV {a b:Int}:(ZDG a b==0)=(a==b):=by
 unfold ZDG
 by_cases h:a<b
 ·rw [if_pos h]; rw [Bool.eq_iff_iff]; simp; omega
 ·rw [if_neg h]
  by_cases h2:b<a
  ·rw [if_pos h2]; rw [Bool.eq_iff_iff]; simp; omega
  ·rw [if_neg h2]; rw [Bool.eq_iff_iff]; simp; omega
theorem ZGl {a b:Int}:ZDG a b<0↔a<b:=by unfold ZDG; split<;>(try split)<;>omega
def Srt {α:Type} (key:α→Int) (xs:List α):Prop:=xs.Pairwise fun x y=>key x<key y
theorem Srt.cut {α:Type} {key:α→Int} {xs:List α} (hs:Srt key xs) {j:Nat} (hj:j<xs.length):(∀ x∈xs.take j,key x<key xs[j])∧∀ x∈xs.drop j,key xs[j]≤key x:=by
 have hp:=List.pairwise_iff_getElem.1 hs
 refine ⟨fun x hx=>?_,fun x hx=>?_⟩
 ·obtain ⟨m,hm,rfl⟩:=List.mem_take_iff_getElem.1 hx
  exact hp m j (by omega) hj (by omega)
 ·obtain ⟨m,hm,rfl⟩:=List.mem_drop_iff_getElem.1 hx
  rcases Nat.eq_zero_or_pos m with h0|h0
  ·subst h0; simp
  ·exact Int.le_of_lt (hp j (j+m) hj (by omega) (by omega))
theorem ZMs {α:Type} {key:α→Int} {xs:List α} (hs:Srt key xs) {id:Int} {i:Nat} (hi:i≤xs.length)
 (hk:∀ k,(∀ x∈xs.take k,ZDG (key x) id<0)→(∀ x∈xs.drop k,0≤ZDG (key x) id)→k≤xs.length→i=k):
 ((xs[i]?).map fun x=>ZDG (key x) id==0).getD false=(xs.findIdx? fun x=>key x==id).isSome∧(∀ j,(xs.findIdx? fun x=>key x==id)=some j→i=j)∧((∀ x∈xs,key x<id)→i=xs.length):=by
 have h2:∀ j,(xs.findIdx? fun x=>key x==id)=some j→i=j:=by
  intro j hj
  obtain ⟨x,hx,_,he,hlt,_⟩:=ZAx hj
  have hxj:xs[j]=x:=by
   have:=List.getElem?_eq_getElem hlt
   rw [hx] at this
   exact (Option.some.inj this).symm
  have hid:key xs[j]=id:=by rw [hxj]; simpa using he
  obtain ⟨c1,c2⟩:=hs.cut hlt
  refine hk j (fun y hy=>ZGl.2 (by rw [←hid]; exact c1 y hy)) (fun y hy=>?_) (by omega)
  have:=c2 y hy
  have hn:=(ZGl (a:=key y) (b:=id))
  omega
 refine ⟨?_,h2,fun hall=>hk xs.length (fun y hy=>ZGl.2 (hall y (List.mem_of_mem_take hy))) (fun y hy=>by rw [List.drop_length] at hy; cases hy) (Nat.le_refl _)⟩
 cases hf:xs.findIdx? fun x=>key x==id with
 | some j=>
   have hij:=h2 j hf
   subst hij
   obtain ⟨x,hx,_,he,_,_⟩:=ZAx hf
   rw [hx]
   show (ZDG (key x) id==0)=true
   rw [ZRV]; exact he
 | none=>
   have hno:=List.findIdx?_eq_none_iff.1 hf
   cases hx:xs[i]? with
   | none=>rfl
   | some x=>
     show (ZDG (key x) id==0)=false
     rw [ZRV]
     exact hno x (List.mem_of_getElem? hx)
def upd {α:Type} (key:α→Int) (id:Int) (f:α→α) (xs:List α):List α:=xs.map fun x=>if key x=id then f x else x
theorem ZEm {α:Type} {key:α→Int} {xs:List α} (hs:Srt key xs) {id:Int} {f:α→α} {j:Nat} {x:α} (hj:(xs.findIdx? fun x=>key x==id)=some j) (hx:xs[j]?=some x):xs.set j (f x)=upd key id f xs:=by
 obtain ⟨y,hy,_,he,hlt,_⟩:=ZAx hj
 rw [hx] at hy
 cases hy
 have hp:=List.pairwise_iff_getElem.1 hs
 have hxj:xs[j]=x:=by
  have:=List.getElem?_eq_getElem hlt
  rw [hx] at this
  exact (Option.some.inj this).symm
 have he:key xs[j]=id:=by rw [hxj]; simpa using he
 unfold upd
 apply List.ext_getElem
 ·simp
 ·intro m h1 h2
  simp only [List.length_map] at h2
  rw [List.getElem_map,List.getElem_set]
  by_cases hm:j=m
  ·subst hm
   rw [if_pos rfl,if_pos he,hxj]
  ·rw [if_neg hm,if_neg]
   intro hme
   rcases Nat.lt_or_ge j m with h|h
   ·have:=hp j m hlt h2 h; omega
   ·have:=hp m j h2 hlt (by omega); omega
theorem upd_none {α:Type} {key:α→Int} {xs:List α} {id:Int} {f:α→α} (hj:(xs.findIdx? fun x=>key x==id)=none):upd key id f xs=xs:=by
 have hno:=List.findIdx?_eq_none_iff.1 hj
 unfold upd
 conv=>rhs; rw [←List.map_id xs]
 apply List.map_congr_left
 intro x hx
 have:=hno x hx
 rw [if_neg (by simpa using this)]; rfl
theorem ZRj {α:Type} (key:α→Int) (id:Int) (f:α→α) (xs:List α):(upd key id f xs).length=xs.length:=List.length_map _
theorem Srt.upd {α:Type} {key:α→Int} {xs:List α} (hs:Srt key xs) (id:Int) {f:α→α} (hf:∀ x,key (f x)=key x):Srt key (upd key id f xs):=by
 unfold Srt at*
 unfold Go.Proofs.YtkmniidiifpdgaaGreat.upd
 rw [List.pairwise_map]
 refine List.Pairwise.imp (fun {x y} hxy=>?_) hs
 split<;>split<;>(try simp only [hf])<;>exact hxy
abbrev ZAt:=ZAR ZAM 174
def ZO8:Ask:=⟨0,0,0,0,0,0,0,0,0,0⟩
def getA (xs:List Ask) (id:Int):Option Ask:=xs.find? fun x=>x.ID==id
def ZLA {α:Type} (z:α):Option α→α×Bool
 | none=>(z,false)
 | some x=>(x,true)
section
variable {p:Option Addr} {xs:List Ask} {c h:Hp} {l:List Hp} {id:Int}
theorem ZJP (o:On h (c::l)) (w:ZAt p xs c) (hs:Srt Ask.ID xs) (hl:xs.length≤1000000) {Q:Int×Bool→Hp→Prop}
 (hq:∀ (i:Nat) c' h',On h' (c'::l)→ZAt p xs c'→i≤xs.length→(∀ j,(xs.findIdx? fun x=>x.ID==id)=some j→i=j)→((∀ x∈xs,x.ID<id)→i=xs.length)→Q ((i:Int),(xs.findIdx? fun x=>x.ID==id).isSome) h'):
 ZA TP 140 [Value.pointer p,Value.int .i64 id] (ZW [cI .i64,cB]) h Q:=by
 obtain ⟨b,sl,d,rfl,oc,wd⟩:=w
 refine c140 ?_
 unfold F140
 refine ZQ rfl ?_
 have o1:=o.split oc
 dsimp only [ZR]
 refine ZJ (x:=sl) o1 0 rfl rfl ?_
 refine ZPT (f:=⟨223,#[],#[]⟩) (ZYW (id:=id)) o1 (by simp) (g:=d) (by simp) wd.row hl fun i h2 hi hk o2=>?_
 obtain ⟨e1,e2,e3⟩:=ZMs (key:=Ask.ID) hs hi hk
 obtain ⟨c2,o3,w3⟩:=ZAR.close o2 wd
 rw [e1]
 exact hq i c2 h2 o3 w3 hi e2 e3
theorem ZWX (o:On h (c::l)) (w:ZAt p xs c) (hs:Srt Ask.ID xs) (hl:xs.length≤1000000) {Q:Ask×Bool→Hp→Prop} (hq:∀ c' h',On h' (c'::l)→ZAt p xs c'→Q (ZLA ZO8 (getA xs id)) h'):
 ZA TP 81 [Value.pointer p,Value.int .i64 id] (ZW [ZAM,cB]) h Q:=by
 refine c81 ?_
 unfold F81
 refine ZJP o w hs hl fun i c1 h1 o1 w1 hi hj _=>?_
 have hq2:=hq c1 h1 o1 w1
 clear hq
 unfold getA at hq2
 cases hf:xs.findIdx? fun x=>x.ID==id with
 | none=>
   rw [(ZB1 hf).1] at hq2
   exact Zd rfl hq2
 | some j=>
   have:=hj j hf
   subst this
   obtain ⟨x,hx,hg,_,hlt,_⟩:=ZAx hf
   rw [hg] at hq2
   obtain ⟨b,sl,d,rfl,oc,wd⟩:=w1
   refine ZQ rfl ?_
   have o2:=o1.split oc
   dsimp only [ZR]
   refine ZJ (x:=sl) o2 0 rfl rfl ?_
   exact ZM wd.row (Int.natCast_nonneg i) (by omega) fun a ha=>ZO wd.row (o2.mem (by simp)) rfl ha (i:=i) hx (by rfl) hq2
theorem ZQe (o:On h (c::l)) (w:ZAt p xs c) (hl:xs.length≤1000000) {Q:Sl→Hp→Prop} (hq:∀ s c' d h',On h' (c'::d::l)→ZAt p xs c'→Own ZAM d s xs→Q s h'):
 ZA TP 45 [Value.pointer p] cSl h Q:=by
 obtain ⟨b,sl,d,rfl,oc,wd⟩:=w
 refine c45 ?_
 unfold F45
 refine ZQ rfl ?_
 have o1:=o.split oc
 dsimp only [ZR]
 refine ZJ (x:=sl) o1 0 rfl rfl ?_
 refine ZQs o1 (g:=d) (by simp) wd.row hl fun s d2 h2 o2 w2=>?_
 have o3:On h2 (ob b [sv sl] 174::d::d2::l):=o2.perm ((List.Perm.swap _ _ _).trans ((List.Perm.swap _ _ _).cons _))
 obtain ⟨c2,o4,w4⟩:=ZAR.close o3 wd
 exact hq s c2 d2 h2 o4 w4 w2
theorem ZSe (o:On h (c::l)) (w:ZAt p xs c) (hs:Srt Ask.ID xs) (hl:xs.length≤1000000) {Q:Option Addr×Int→Hp→Prop}
 (hq0:∀ c' h',On h' (c'::l)→ZAt p xs c'→getA xs id=none→(xs.findIdx? fun x=>x.ID==id)=none→Q (none,4) h')
 (hq1:∀ (i:Nat) (x:Ask) (a:Addr) (b:Nat) (sl:Sl) (d h':Hp),p=some ⟨b,0,none⟩→On h' (ob b [sv sl] 174::d::l)→Own ZAM d sl xs→sl.a=some a→xs[i]?=some x→getA xs id=some x→(xs.findIdx? fun x=>x.ID==id)=some i→Q (some (a.add (i*10)),0) h'):
 ZA TP 226 [Value.pointer p,Value.int .i64 id] (ZW [cP,cI .i64]) h Q:=by
 refine c226 ?_
 unfold F226
 refine ZJP o w hs hl fun i c1 h1 o1 w1 hi hj _=>?_
 cases hf:xs.findIdx? fun x=>x.ID==id with
 | none=>exact Zd rfl (hq0 c1 h1 o1 w1 (ZB1 hf).1 hf)
 | some j=>
   have:=hj j hf
   subst this
   obtain ⟨x,hx,hg,_,hlt,_⟩:=ZAx hf
   obtain ⟨b,sl,d,hp,oc,wd⟩:=w1
   have hq1:=hq1 i x
   rw [hp]
   refine ZQ rfl ?_
   have o2:=o1.split oc
   dsimp only [ZR]
   refine ZJ (x:=sl) o2 0 rfl rfl ?_
   exact ZM wd.row (Int.natCast_nonneg i) (by omega) fun a ha=>hq1 a b sl d h1 hp o2 wd ha hx hg hf
end
def ZVz (q u:Int) (a:Ask):Ask:={a with State:=2,Hit:=q,Until:=u}
def ZWI (a:Ask):Ask:={a with State:=1,Hit:=0,Until:=0}
def ZWJ (st:Int) (a:Ask):Ask:={a with State:=st,Until:=0,Hit:=if st=4 then 0 else a.Hit}
def ZDc (xs:List Ask) (id q u:Int):List Ask×Int:=match getA xs id with
 | none=>(xs,4)
 | some a=>if a.State≠1 then (xs,11) else if q<1∨u<1 then (xs,1) else (upd Ask.ID id (ZVz q u) xs,0)
def ZGX (xs:List Ask) (id:Int):List Ask×Int:=match getA xs id with
 | none=>(xs,4)
 | some a=>if a.State≠2 then (xs,11) else (upd Ask.ID id ZWI xs,0)
def ZP6 (xs:List Ask) (id st:Int):List Ask×Int:=match getA xs id with
 | none=>(xs,4)
 | some a=>if st≠3∧st≠4 then (xs,1) else if a.State=3∨a.State=4∨(st=3∧a.State≠2) then (xs,11) else (upd Ask.ID id (ZWJ st) xs,0)
def ZD4 (a:Ask):Bool:=a.State==1||a.State==2
def ZMg (a:Ask):Bool:=decide (a.ID≥1)&&(decide (a.Qty≥1)&&(decide (a.Client≥0)&&(decide (a.Bond≥0)&&(ZBK a.Side&&(a.Dealers != 0&&(a.State==1&&(a.Hit==0&&a.Until==0)))))))
def ZIj (xs:List Ask) (a:Ask):List Ask×Int:=
 if (xs.findIdx? fun x=>x.ID==a.ID).isSome=true∨ZMg a=false then (xs,1) else if 32≤(xs.filter ZD4).length then (xs,3) else (xs++[a],0)
theorem _root_.Go.Eng.Own.part_at {cd:Cdc} {c:Hp} {s:Sl} {xs:List cd.T} (w:Own cd c s xs) {a:Addr} (ha:s.a=some a) {m:Nat} (n:Nat):(⟨(a.add m).block,(a.add m).off+n,none⟩:Addr)=(a.add m).add n:=by
 have hsp:a.spot=none:=by
  have:=w.2
  rw [ha] at this
  exact this.1
 rw [ZA7 hsp,ZCO]
section
variable {p:Option Addr} {xs:List Ask} {c h:Hp} {l:List Hp} {id:Int}
theorem ZS9 {q u:Int} (o:On h (c::l)) (w:ZAt p xs c) (hs:Srt Ask.ID xs) (hl:xs.length≤1000000) {Q:Int→Hp→Prop} (hq:∀ c' h',On h' (c'::l)→ZAt p (ZDc xs id q u).1 c'→Q (ZDc xs id q u).2 h'):
 ZA TP 287 [Value.pointer p,Value.int .i64 id,Value.int .i64 q,Value.int .i64 u] (cI .i64) h Q:=by
 refine c287 ?_
 unfold F287
 unfold ZDc at hq
 refine ZSe o w hs hl (fun c1 h1 o1 w1 hn hf=>?_) fun i x a b sl d h1 hp o1 wd ha hx hg hf=>?_
 ·rw [hn] at hq
  exact Zd rfl (hq c1 h1 o1 w1)
 ·rw [hg] at hq
  dsimp only at hq
  refine ZQ rfl ?_
  dsimp only [ZR]
  have e:=wd.part_at ha (m:=i*10)
  simp only [e]
  refine Zo (cd:=ZAM) (cf:=cI .i64) wd.row (o1.mem (by simp)) rfl ha (i:=i) hx rfl (k:=8) (y:=x.State) rfl ?_
  refine ZD (fun hne=>?_) fun heq=>?_
  ·rw [if_pos (by simpa using hne)] at hq
   obtain ⟨c2,o2,w2⟩:=ZAR.close o1 wd
   exact hq c2 h1 o2 (hp▸w2)
  ·rw [if_neg (by simpa using heq)] at hq
   refine ZN (fun t h'=>h'=h1∧t=decide (q<1∨u<1)) ?_ fun J hJ=>?_
   ·rintro t h' ⟨rfl,rfl⟩
    refine ZH (fun hc=>?_) fun hc=>?_
    ·rw [if_pos hc] at hq
     obtain ⟨c2,o2,w2⟩:=ZAR.close o1 wd
     exact hq c2 h' o2 (hp▸w2)
    ·rw [if_neg hc] at hq
     have hlt:i<xs.length:=(List.getElem?_eq_some_iff.1 hx).1
     refine Z9 (cd:=ZAM) (cf:=cI .i64) o1.swap rfl rfl wd ha (i:=i) (x0:=x) hx (m:=i*10) rfl (k:=8) (y:=2) (x':={x with State:=2}) rfl (by decide) fun c3 h3 o3 w3=>?_
     refine Z9 (cd:=ZAM) (cf:=cI .i64) o3 rfl rfl w3 ha (i:=i) (x0:={x with State:=2}) (List.getElem?_set_self hlt) (m:=i*10) rfl (k:=9) (y:=q) (x':={x with State:=2,Hit:=q}) rfl (by decide) fun c4 h4 o4 w4=>?_
     rw [List.set_set] at w4
     refine Z9 (cd:=ZAM) (cf:=cI .i64) o4 rfl rfl w4 ha (i:=i) (x0:={x with State:=2,Hit:=q}) (List.getElem?_set_self hlt) (m:=i*10) rfl (k:=7) (y:=u) (x':=ZVz q u x) rfl (by decide) fun c5 h5 o5 w5=>?_
     rw [List.set_set,ZEm hs hf hx] at w5
     obtain ⟨c6,o6,w6⟩:=ZAR.close o5.swap w5
     exact hq c6 h5 o6 (hp▸w6)
   ·refine ZH (fun hc=>hJ _ _ ⟨rfl,(decide_eq_true (.inl hc)).symm⟩) fun hc=>hJ _ _ ⟨rfl,?_⟩
    exact decide_eq_decide.2 (by omega)
theorem ZUm (o:On h (c::l)) (w:ZAt p xs c) (hs:Srt Ask.ID xs) (hl:xs.length≤1000000) {Q:Int→Hp→Prop} (hq:∀ c' h',On h' (c'::l)→ZAt p (ZGX xs id).1 c'→Q (ZGX xs id).2 h'):
 ZA TP 142 [Value.pointer p,Value.int .i64 id] (cI .i64) h Q:=by
 refine c142 ?_
 unfold F142
 unfold ZGX at hq
 refine ZSe o w hs hl (fun c1 h1 o1 w1 hn hf=>?_) fun i x a b sl d h1 hp o1 wd ha hx hg hf=>?_
 ·rw [hn] at hq
  exact Zd rfl (hq c1 h1 o1 w1)
 ·rw [hg] at hq
  dsimp only at hq
  refine ZQ rfl ?_
  dsimp only [ZR]
  have e:=wd.part_at ha (m:=i*10)
  simp only [e]
  refine Zo (cd:=ZAM) (cf:=cI .i64) wd.row (o1.mem (by simp)) rfl ha (i:=i) hx rfl (k:=8) (y:=x.State) rfl ?_
  refine ZD (fun hne=>?_) fun heq=>?_
  ·rw [if_pos (by simpa using hne)] at hq
   obtain ⟨c2,o2,w2⟩:=ZAR.close o1 wd
   exact hq c2 h1 o2 (hp▸w2)
  ·rw [if_neg (by simpa using heq)] at hq
   have hlt:i<xs.length:=(List.getElem?_eq_some_iff.1 hx).1
   refine Z9 (cd:=ZAM) (cf:=cI .i64) o1.swap rfl rfl wd ha (i:=i) (x0:=x) hx (m:=i*10) rfl (k:=8) (y:=1) (x':={x with State:=1}) rfl (by decide) fun c3 h3 o3 w3=>?_
   refine Z9 (cd:=ZAM) (cf:=cI .i64) o3 rfl rfl w3 ha (i:=i) (x0:={x with State:=1}) (List.getElem?_set_self hlt) (m:=i*10) rfl (k:=9) (y:=0) (x':={x with State:=1,Hit:=0}) rfl (by decide) fun c4 h4 o4 w4=>?_
   rw [List.set_set] at w4
   refine Z9 (cd:=ZAM) (cf:=cI .i64) o4 rfl rfl w4 ha (i:=i) (x0:={x with State:=1,Hit:=0}) (List.getElem?_set_self hlt) (m:=i*10) rfl (k:=7) (y:=0) (x':=ZWI x) rfl (by decide) fun c5 h5 o5 w5=>?_
   rw [List.set_set,ZEm hs hf hx] at w5
   obtain ⟨c6,o6,w6⟩:=ZAR.close o5.swap w5
   exact hq c6 h5 o6 (hp▸w6)
theorem ZVy {st:Int} (o:On h (c::l)) (w:ZAt p xs c) (hs:Srt Ask.ID xs) (hl:xs.length≤1000000) {Q:Int→Hp→Prop} (hq:∀ c' h',On h' (c'::l)→ZAt p (ZP6 xs id st).1 c'→Q (ZP6 xs id st).2 h'):
 ZA TP 143 [Value.pointer p,Value.int .i64 id,Value.int .i64 st] (cI .i64) h Q:=by
 refine c143 ?_
 unfold F143
 unfold ZP6 at hq
 refine ZSe o w hs hl (fun c1 h1 o1 w1 hn hf=>?_) fun i x a b sl d h1 hp o1 wd ha hx hg hf=>?_
 ·rw [hn] at hq
  exact Zd rfl (hq c1 h1 o1 w1)
 ·rw [hg] at hq
  dsimp only at hq
  refine ZQ rfl ?_
  dsimp only [ZR]
  have e:=wd.part_at ha (m:=i*10)
  simp only [e]
  have shut:∀ {r:Int},(∀ c' h',On h' (c'::l)→ZAt p xs c'→Q r h')→Q r h1:=fun hq=>by
   obtain ⟨c2,o2,w2⟩:=ZAR.close o1 wd
   exact hq c2 h1 o2 (hp▸w2)
  refine ZN (fun t h'=>h'=h1∧t=decide (st≠3∧st≠4)) ?_ fun J hJ=>?_
  ·rintro t h' ⟨rfl,rfl⟩
   refine ZH (fun hc=>?_) fun hc=>?_
   ·rw [if_pos hc] at hq
    exact shut hq
   ·rw [if_neg hc] at hq
    refine ZN (fun t h2=>h2=h'∧t=decide (x.State=3∨x.State=4∨(st=3∧x.State≠2))) ?_ fun J2 hJ2=>?_
    ·rintro t h2 ⟨rfl,rfl⟩
     refine ZH (fun hc2=>?_) fun hc2=>?_
     ·rw [if_pos hc2] at hq
      exact shut hq
     ·rw [if_neg hc2] at hq
      have hlt:i<xs.length:=(List.getElem?_eq_some_iff.1 hx).1
      refine Z9 (cd:=ZAM) (cf:=cI .i64) o1.swap rfl rfl wd ha (i:=i) (x0:=x) hx (m:=i*10) rfl (k:=8) (y:=st) (x':={x with State:=st}) rfl (by decide) fun c3 h3 o3 w3=>?_
      refine Z9 (cd:=ZAM) (cf:=cI .i64) o3 rfl rfl w3 ha (i:=i) (x0:={x with State:=st}) (List.getElem?_set_self hlt) (m:=i*10) rfl (k:=7) (y:=0) (x':={x with State:=st,Until:=0}) rfl (by decide) fun c4 h4 o4 w4=>?_
      rw [List.set_set] at w4
      refine ZD (fun h4'=>?_) fun h4'=>?_
      ·have h4':st=4:=by simpa using h4'
       refine Z9 (cd:=ZAM) (cf:=cI .i64) o4 rfl rfl w4 ha (i:=i) (x0:={x with State:=st,Until:=0}) (List.getElem?_set_self hlt) (m:=i*10) rfl (k:=9) (y:=0) (x':=ZWJ st x) (by unfold ZWJ; rw [if_pos h4']; rfl) (by decide) fun c5 h5 o5 w5=>?_
       rw [List.set_set,ZEm hs hf hx] at w5
       obtain ⟨c6,o6,w6⟩:=ZAR.close o5.swap w5
       exact hq c6 h5 o6 (hp▸w6)
      ·have h4':¬st=4:=by simpa using h4'
       have e5:({x with State:=st,Until:=0}:Ask)=ZWJ st x:=by unfold ZWJ; rw [if_neg h4']
       rw [e5,ZEm hs hf hx] at w4
       obtain ⟨c6,o6,w6⟩:=ZAR.close o4.swap w4
       exact hq c6 h4 o6 (hp▸w6)
    ·have ld:∀ {K:Int→Prop},K x.State→ZC (cI .i64) ((a.add (i*10)).add 8) h' K:=fun hk=>Zo (cd:=ZAM) (cf:=cI .i64) wd.row (o1.mem (by simp)) rfl ha (i:=i) hx rfl (k:=8) (y:=x.State) rfl hk
     refine ld (ZD (fun h3=>hJ2 _ _ ⟨rfl,(decide_eq_true (.inl (by simpa using h3))).symm⟩) fun h3=>?_)
     refine ld (ZD (fun h4=>hJ2 _ _ ⟨rfl,(decide_eq_true (.inr (.inl (by simpa using h4)))).symm⟩) fun h4=>?_)
     have h3:¬x.State=3:=by simpa using h3
     have h4:¬x.State=4:=by simpa using h4
     refine ZD (fun h5=>?_) fun h5=>?_
     ·have h5:st=3:=by simpa using h5
      refine ld (hJ2 _ _ ⟨rfl,?_⟩)
      rw [Bool.eq_iff_iff]
      simp [h3,h4,h5]
     ·have h5:¬st=3:=by simpa using h5
      exact hJ2 _ _ ⟨rfl,by simp [h3,h4,h5]⟩
  ·refine ZD (fun h3=>?_) fun h3=>?_
   ·have h3:st≠3:=by simpa using h3
    exact hJ _ _ ⟨rfl,by rw [Bool.eq_iff_iff]; simp [h3]⟩
   ·have h3:st=3:=by simpa using h3
    exact hJ _ _ ⟨rfl,by simp [h3]⟩
theorem ZSO {x:Ask} {h:Hp} {Q:Bool→Hp→Prop} (hq:Q (ZMg x) h):ZA TP 295 [ZAM.enc x] cB h Q:=by
 refine c295 ?_
 unfold F295
 unfold ZMg at hq
 refine ZD (fun e1=>ZD (fun e2=>ZD (fun e3=>ZD (fun e4=>ZC1 (ZD (fun e5=>ZD (fun e6=>ZD (fun e7=>ZD (fun e8=>?_) fun e=>?_) fun e=>?_) fun e=>?_) fun e=>?_)) fun e=>?_) fun e=>?_) fun e=>?_) fun e=>?_
 all_goals simp only [*,Bool.true_and,Bool.false_and] at hq
 all_goals exact hq
theorem ZTK (o:On h (c::l)) (w:ZAt p xs c) (hl:xs.length≤1000000) {Q:Int→Hp→Prop} (hq:∀ c' h',On h' (c'::l)→ZAt p xs c'→Q (((xs.filter ZD4).length:Nat):Int) h'):
 ZA TP 296 [Value.pointer p] (cI .i64) h Q:=by
 refine c296 ?_
 unfold F296
 refine ZQe o w hl fun s c1 d h1 o1 w1 wd=>?_
 have hlen:=wd.1
 refine Zb (fun z h'=>∃ i:Nat,z=(((((xs.take i).filter ZD4).length:Nat):Int),(i:Int))∧i≤xs.length∧h'=h1) (fun z=>xs.length-z.2.toNat) ⟨0,rfl,Nat.zero_le _,rfl⟩ ?_
 rintro J z h2 again ⟨i,rfl,hi,rfl⟩
 dsimp only
 refine ZH (fun hlt=>?_) fun hge=>?_
 ·have hi':i<xs.length:=by omega
  have a0:xs[i]?=some xs[i]:=List.getElem?_eq_getElem hi'
  have est:(xs.take (i+1)).filter ZD4=(xs.take i).filter ZD4++if ZD4 xs[i]=true then [xs[i]] else []:=by
   rw [List.take_add_one,a0,List.filter_append]
   simp [List.filter_cons]
  have hle:=List.length_filter_le ZD4 (xs.take i)
  rw [List.length_take] at hle
  rw [ZAH (n:=i) (by omega)]
  refine ZN (fun n h'=>n=((((xs.take (i+1)).filter ZD4).length:Nat):Int)∧h'=h2) ?_ fun J2 hJ2=>?_
  ·rintro n h' ⟨rfl,rfl⟩
   exact again _ _ ⟨i+1,rfl,by omega,rfl⟩ (by dsimp only; omega)
  ·refine ZM wd.row (Int.natCast_nonneg i) (by omega) fun a ha=>ZO wd.row (o1.mem (by simp)) rfl ha (i:=i) a0 (by rfl) ?_
   refine ZN (fun t h'=>t=ZD4 xs[i]∧h'=h2) ?_ fun J3 hJ3=>?_
   ·rintro t h' ⟨rfl,rfl⟩
    refine ZD (fun ht=>hJ2 _ _ ⟨?_,rfl⟩) fun ht=>hJ2 _ _ ⟨?_,rfl⟩
    ·rw [est,if_pos ht,List.length_append,List.length_singleton]
     exact ZAH (by omega)
    ·rw [est,if_neg (by rw [ht]; simp),List.append_nil]
   ·refine ZD (fun e1=>hJ3 _ _ ⟨?_,rfl⟩) fun e1=>hJ3 _ _ ⟨?_,rfl⟩
    ·unfold ZD4; rw [show (xs[i].State==1)=true from e1]; rfl
    ·unfold ZD4; rw [show (xs[i].State==1)=false from e1]; rfl
 ·have:i=xs.length:=by omega
  subst this
  rw [List.take_length]
  exact hq c1 h2 (o1.sublist (List.Sublist.cons_cons _ (List.sublist_cons_self _ _))) w1
theorem ZVX {x:Ask} (o:On h (c::l)) (w:ZAt p xs c) (hs:Srt Ask.ID xs) (hx:∀ y∈xs,y.ID<x.ID) (hl:xs.length≤1000000) {Q:Int→Hp→Prop} (hq:∀ c' h',On h' (c'::l)→ZAt p (ZIj xs x).1 c'→Q (ZIj xs x).2 h'):
 ZA TP 221 [Value.pointer p,ZAM.enc x] (cI .i64) h Q:=by
 refine c221 ?_
 unfold F221
 refine ZJP o w hs hl fun i c1 h1 o1 w1 hi _ hall=>?_
 have hi:=hall hx
 subst hi
 obtain ⟨b,hp⟩:=w1.some
 unfold ZIj at hq
 refine ZN (fun t h'=>h'=h1∧t=decide ((xs.findIdx? fun y=>y.ID==x.ID).isSome=true∨ZMg x=false)) ?_ fun J hJ=>?_
 ·rintro t h' ⟨rfl,rfl⟩
  refine ZH (fun hc=>?_) fun hc=>?_
  ·rw [if_pos hc] at hq
   exact hq c1 h' o1 w1
  ·rw [if_neg hc] at hq
   refine ZTK o1 w1 hl fun c2 h2 o2 w2=>?_
   refine ZH (fun hm=>?_) fun hm=>?_
   ·rw [if_pos (by omega)] at hq
    exact hq c2 h2 o2 w2
   ·rw [if_neg (by omega)] at hq
    obtain ⟨b,sl,d,rfl,oc,wd⟩:=w2
    have o3:=o2.split oc
    dsimp only [ZR]
    refine ZJ (x:=sl) o3 0 rfl rfl ?_
    refine ZI o3 fun k h4 o4=>?_
    refine ZOV (s:=sl) (i:=xs.length) (k:=k) (x:=x) (xs:=xs) (o4.perm (l':=d::ob k (ZAM.enc x).cells.toList 50::ob b [sv sl] 174::l) ?_) wd (Nat.le_refl _) hl fun s5 c5 h5 o5 w5=>?_
    ·exact ((List.Perm.swap _ _ _).cons _).trans (List.Perm.swap _ _ _)
    ·rw [List.take_length,List.drop_length] at w5
     refine ZZ (cd:=cSl) (i:=0) (x:=s5) (vs':=[sv s5]) o5.swap rfl rfl (Nat.le_refl 1) fun h6 o6=>?_
     obtain ⟨c7,o7,w7⟩:=ZAR.close o6 w5
     exact hq c7 h6 o7 w7
 ·refine ZQ (by rw [hp]; rfl) ?_
  refine ZD (fun ht=>hJ _ _ ⟨rfl,(decide_eq_true (.inl ht)).symm⟩) fun ht=>?_
  refine ZSO (hJ _ _ ⟨rfl,?_⟩)
  have ht:(xs.findIdx? fun y=>y.ID==x.ID).isSome=false:=ht
  rw [ht,Bool.eq_iff_iff]; simp
end
abbrev Zu:=ZAR ZT 172
def ZMI:Za:=⟨0,0,0,0,0,false⟩
def getQ (xs:List Za) (id:Int):Option Za:=xs.find? fun x=>x.ID==id
def ZHS (q:Za):Za:={q with Live:=false}
def killQ (xs:List Za) (id:Int):List Za:=upd Za.ID id ZHS xs
def ZJU (xs:List Za) (id:Int):Bool:=match getQ xs id with
 | none=>false
 | some q=>q.Live
def ZZa (q x:Za):Bool:=x.Ask==q.Ask&&(x.Dealer==q.Dealer&&x.Live)
def ZGi (q x:Za):Za:=if ZZa q x=true then ZHS x else x
def ZZA (q:Za):Bool:=decide (q.ID<1)||(decide (q.Ask<1)||(decide (q.Price<1)||(decide (q.Dealer<0)||!q.Live)))
def ZIp (xs:List Za) (q:Za):List Za×Int:=
 if (xs.findIdx? fun x=>x.ID==q.ID).isSome=true∨ZZA q=true then (xs,1) else (xs.map (ZGi q)++[q],0)
def ZH8 (xs:List Za) (id dealer:Int):List Za×Int:=match getQ xs id with
 | none=>(xs,4)
 | some q=>if q.Dealer≠dealer then (xs,5) else if q.Live=false then (xs,12) else (killQ xs id,0)
section
variable {p:Option Addr} {xs:List Za} {c h:Hp} {l:List Hp} {id:Int}
theorem ZJG (o:On h (c::l)) (w:Zu p xs c) (hs:Srt Za.ID xs) (hl:xs.length≤1000000) {Q:Int×Bool→Hp→Prop}
 (hq:∀ (i:Nat) c' h',On h' (c'::l)→Zu p xs c'→i≤xs.length→(∀ j,(xs.findIdx? fun x=>x.ID==id)=some j→i=j)→((∀ x∈xs,x.ID<id)→i=xs.length)→Q ((i:Int),(xs.findIdx? fun x=>x.ID==id).isSome) h'):
 ZA TP 141 [Value.pointer p,Value.int .i64 id] (ZW [cI .i64,cB]) h Q:=by
 obtain ⟨b,sl,d,rfl,oc,wd⟩:=w
 refine c141 ?_
 unfold F141
 refine ZQ rfl ?_
 have o1:=o.split oc
 dsimp only [ZR]
 refine ZJ (x:=sl) o1 0 rfl rfl ?_
 refine ZOJ (f:=⟨225,#[],#[]⟩) (ZYc (id:=id)) o1 (by simp) (g:=d) (by simp) wd.row hl fun i h2 hi hk o2=>?_
 obtain ⟨e1,e2,e3⟩:=ZMs (key:=Za.ID) hs hi hk
 obtain ⟨c2,o3,w3⟩:=ZAR.close o2 wd
 rw [e1]
 exact hq i c2 h2 o3 w3 hi e2 e3
theorem ZRx (o:On h (c::l)) (w:Zu p xs c) (hs:Srt Za.ID xs) (hl:xs.length≤1000000) {Q:Za×Bool→Hp→Prop} (hq:∀ c' h',On h' (c'::l)→Zu p xs c'→Q (ZLA ZMI (getQ xs id)) h'):
 ZA TP 210 [Value.pointer p,Value.int .i64 id] (ZW [ZT,cB]) h Q:=by
 refine c210 ?_
 unfold F210
 refine ZJG o w hs hl fun i c1 h1 o1 w1 hi hj _=>?_
 have hq2:=hq c1 h1 o1 w1
 clear hq
 unfold getQ at hq2
 cases hf:xs.findIdx? fun x=>x.ID==id with
 | none=>
   rw [(ZB1 hf).1] at hq2
   exact Zd rfl hq2
 | some j=>
   have:=hj j hf
   subst this
   obtain ⟨x,hx,hg,_,hlt,_⟩:=ZAx hf
   rw [hg] at hq2
   obtain ⟨b,sl,d,rfl,oc,wd⟩:=w1
   refine ZQ rfl ?_
   have o2:=o1.split oc
   dsimp only [ZR]
   refine ZJ (x:=sl) o2 0 rfl rfl ?_
   exact ZM wd.row (Int.natCast_nonneg i) (by omega) fun a ha=>ZO wd.row (o2.mem (by simp)) rfl ha (i:=i) hx (by rfl) hq2
theorem ZMp (o:On h (c::l)) (w:Zu p xs c) (hs:Srt Za.ID xs) (hl:xs.length≤1000000) {Q:Bool→Hp→Prop} (hq:∀ c' h',On h' (c'::l)→Zu p (killQ xs id) c'→Q (ZJU xs id) h'):
 ZA TP 82 [Value.pointer p,Value.int .i64 id] cB h Q:=by
 refine c82 ?_
 unfold F82
 refine ZJG o w hs hl fun i c1 h1 o1 w1 hi hj _=>?_
 unfold killQ ZJU getQ at hq
 cases hf:xs.findIdx? fun x=>x.ID==id with
 | none=>
   rw [(ZB1 hf).1,upd_none (key:=Za.ID) hf] at hq
   refine ZN (fun t h'=>t=true∧h'=h1) ?_ fun J hJ=>?_
   ·rintro t h' ⟨rfl,rfl⟩
    exact Zd rfl (hq c1 h' o1 w1)
   ·exact Zd rfl (hJ _ _ ⟨rfl,rfl⟩)
 | some j=>
   have:=hj j hf
   subst this
   obtain ⟨x,hx,hg,_,hlt,_⟩:=ZAx hf
   rw [hg] at hq
   dsimp only at hq
   have w1':=w1
   obtain ⟨b,sl,d,rfl,oc,wd⟩:=w1
   have o2:=o1.split oc
   refine ZN (fun t h'=>t=!x.Live∧h'=h1) ?_ fun J hJ=>?_
   ·rintro t h' ⟨rfl,rfl⟩
    refine ZD (fun hn=>?_) fun hn=>?_
    ·have hn:x.Live=false:=by simpa using hn
     have e:upd Za.ID id ZHS xs=xs:=by
      rw [←ZEm hs hf hx,show ZHS x=x by unfold ZHS; rw [←hn],←(List.getElem?_eq_some_iff.1 hx).2,List.set_getElem_self]
     rw [e] at hq
     have hq:=hq c1 h' o1 w1'
     rwa [hn] at hq
    ·have hn:x.Live=true:=by simpa using hn
     dsimp only [ZR]
     refine ZJ (x:=sl) o2 0 rfl rfl ?_
     refine ZM wd.row (Int.natCast_nonneg i) (by omega) fun a ha=>?_
     rw [wd.part_at ha]
     refine Z9 (cd:=ZT) (cf:=cB) o2.swap rfl rfl wd ha (i:=i) (x0:=x) hx (m:=(i:Int).toNat*6) rfl (k:=5) (y:=false) (x':=ZHS x) rfl (by decide) fun c3 h3 o3 w3=>?_
     rw [ZEm hs hf hx] at w3
     obtain ⟨c6,o6,w6⟩:=ZAR.close o3.swap w3
     have hq:=hq c6 h3 o6 w6
     rwa [hn] at hq
   ·refine ZQ rfl ?_
    dsimp only [ZR]
    refine ZJ (x:=sl) o2 0 rfl rfl ?_
    refine ZM wd.row (Int.natCast_nonneg i) (by omega) fun a ha=>?_
    rw [wd.part_at ha]
    exact Zo (cd:=ZT) (cf:=cB) wd.row (o2.mem (by simp)) rfl ha (i:=i) hx rfl (k:=5) (y:=x.Live) rfl (hJ _ _ ⟨rfl,rfl⟩)
theorem ZTR {dealer:Int} (o:On h (c::l)) (w:Zu p xs c) (hs:Srt Za.ID xs) (hl:xs.length≤1000000) {Q:Int→Hp→Prop} (hq:∀ c' h',On h' (c'::l)→Zu p (ZH8 xs id dealer).1 c'→Q (ZH8 xs id dealer).2 h'):
 ZA TP 281 [Value.pointer p,Value.int .i64 id,Value.int .i64 dealer] (cI .i64) h Q:=by
 refine c281 ?_
 unfold F281
 refine ZRx o w hs hl fun c1 h1 o1 w1=>?_
 unfold ZH8 at hq
 cases hg:getQ xs id with
 | none=>
   rw [hg] at hq
   exact Zd rfl (hq c1 h1 o1 w1)
 | some q=>
   rw [hg] at hq
   dsimp only at hq
   refine ZQ rfl (ZD (fun hd=>?_) fun hd=>?_)
   ·rw [if_pos (by simpa [ZLA] using hd)] at hq
    exact hq c1 h1 o1 w1
   ·rw [if_neg (by simpa [ZLA] using hd)] at hq
    refine ZMp o1 w1 hs hl fun c2 h2 o2 w2=>?_
    have e:ZJU xs id=q.Live:=by unfold ZJU; rw [hg]
    rw [e]
    cases hv:q.Live with
    | false=>
      rw [hv,if_pos rfl] at hq
      refine Zd rfl (hq c2 h2 o2 ?_)
      have e:killQ xs id=xs:=by
       unfold getQ at hg
       cases hf:xs.findIdx? fun x=>x.ID==id with
       | none=>rw [(ZB1 hf).1] at hg; cases hg
       | some i=>
         obtain ⟨x,hx,hg2,_,hlt,_⟩:=ZAx hf
         rw [hg] at hg2
         cases hg2
         unfold killQ
         rw [←ZEm hs hf hx,show ZHS q=q by unfold ZHS; rw [←hv],←(List.getElem?_eq_some_iff.1 hx).2,List.set_getElem_self]
      rwa [e] at w2
    | true=>
      rw [hv,if_neg (by simp)] at hq
      exact ZQ rfl (hq c2 h2 o2 w2)
theorem ZLZ {f:FnV} {cc:List Hp} {φ:Za→Bool} (hf:Clo TP cc f (fun x=>[ZT.enc x]) cB φ) (o:On h (c::l)) (hcc:∀ p∈cc,p∈l) (w:Zu p xs c) (hl:xs.length≤1000000)
 {Q:Sl→Hp→Prop} (hq:∀ s c' d h',On h' (c'::d::l)→Zu p xs c'→Own ZT d s (xs.filter φ)→Q s h'):ZA TP 147 [Value.pointer p,Value.func (Fn.func f.g) f.first f.cap] cSl h Q:=by
 obtain ⟨b,sl,d,rfl,oc,wd⟩:=w
 refine c147 ?_
 unfold F147
 refine ZQ rfl ?_
 have o1:=o.split oc
 have hlen:=wd.1
 dsimp only [ZR]
 refine ZJ (x:=sl) o1 0 rfl rfl ?_
 refine Zb (fun z h'=>∃ (i:Nat) (dO:Hp),z.2=(i:Int)∧i≤xs.length∧On h' (dO::ob b [sv sl] 172::d::l)∧Own ZT dO z.1 ((xs.take i).filter φ)) (fun z=>xs.length-z.2.toNat)
  ⟨0,Hp.emp,rfl,Nat.zero_le _,o1.emp,Own.nil _⟩ ?_
 rintro J ⟨z,zi⟩ h1 again ⟨i,dO,hzi,hle,o1,w1⟩
 dsimp only at hzi w1
 subst hzi
 dsimp only
 have hfl:((xs.take i).filter φ).length≤i:=Nat.le_trans (List.length_filter_le _ _) (by rw [List.length_take]; omega)
 refine ZH (fun hlt=>?_) fun hge=>?_
 ·have hi:i<xs.length:=by omega
  have a0:xs[i]?=some xs[i]:=List.getElem?_eq_getElem hi
  generalize xs[i]=x at a0
  have ei:IntKind.i64.wrap ((i:Int)+1)=((i+1:Nat):Int):=ZAH (by omega)
  rw [ei]
  have est:(xs.take (i+1)).filter φ=(xs.take i).filter φ++if φ x=true then [x] else []:=by
   rw [List.take_add_one,a0,List.filter_append]
   simp [List.filter_cons]
  refine ZN (fun z h'=>∃ dO,On h' (dO::ob b [sv sl] 172::d::l)∧Own ZT dO z ((xs.take (i+1)).filter φ)) ?_ fun J2 hJ2=>?_
  ·rintro z2 h2 ⟨dO2,o2,w2⟩
   exact again _ _ ⟨i+1,dO2,rfl,by omega,o2,w2⟩ (by dsimp only; omega)
  ·refine ZM wd.row (Int.natCast_nonneg i) (by omega) fun a ha=>ZO wd.row (o1.mem (by simp)) rfl ha (i:=i) a0 (by rfl) ?_
   refine hf x h1 _ _ (fun p hp=>by simp [hcc p hp]) o1 fun h2 o2=>?_
   refine ZD (fun e=>?_) fun e=>?_
   ·rw [if_pos e] at est
    refine ZI o2 fun k2 h3 o3=>?_
    refine ZV (g:=ob k2 (ZT.enc x).cells.toList 207) (s:=z) (t:=⟨some ⟨k2,0,none⟩,1,1⟩) (ys:=[x]) o3.swap rfl w1 (by decide) (Zf (by rfl) rfl) (o3.get (i:=0) rfl) ?_ fun d4 p n m h4 o4 w4=>?_
    ·rw [List.length_singleton]
     exact Nat.le_trans (Nat.mul_le_mul_right _ (show _≤1000001 by omega)) (by decide)
    ·exact hJ2 ⟨p,n,m⟩ h4 ⟨d4,o4.sublist (List.Sublist.cons_cons _ (List.sublist_cons_self _ _)),by rw [est]; exact w4⟩
   ·rw [if_neg (by rw [e]; simp),List.append_nil] at est
    exact hJ2 _ h2 ⟨dO,o2,by rw [est]; exact w1⟩
 ·have:i=xs.length:=by omega
  subst this
  rw [List.take_length] at w1
  have o2:On h1 (ob b [sv sl] 172::d::dO::l):=o1.perm ((List.Perm.swap _ _ _).trans ((List.Perm.swap _ _ _).cons _))
  obtain ⟨c2,o4,w4⟩:=ZAR.close o2 wd
  exact hq z c2 dO h1 o4 w4 w1
end
def ZPO (ask tick:Int) (x:Za):Bool:=x.Ask==ask&&(x.Live&&decide (x.Expires>tick))
def ofQ (dealer:Int) (x:Za):Bool:=x.Dealer==dealer&&x.Live
def ZIP (xs:List Za) (ask:Int):List Za:=xs.filter fun x=>!(x.Ask==ask)
section
variable {p:Option Addr} {xs:List Za} {c h:Hp} {l:List Hp} {id:Int}
theorem ZU1 {tick:Int} (o:On h (c::l)) (w:Zu p xs c) (hl:xs.length≤1000000) {Q:Sl→Hp→Prop} (hq:∀ s c' d h',On h' (c'::d::l)→Zu p xs c'→Own ZT d s (xs.filter (ZPO id tick))→Q s h'):
 ZA TP 214 [Value.pointer p,Value.int .i64 id,Value.int .i64 tick] cSl h Q:=by
 refine c214 ?_
 unfold F214
 refine ZI o fun k1 h1 o1=>?_
 refine ZI o1 fun k2 h2 o2=>?_
 refine ZLZ (f:=⟨289,#[],#[.pointer (some ⟨k1,0,none⟩),.pointer (some ⟨k2,0,none⟩)]⟩) (ZYr (k0:=k1) (k1:=k2) (k:=id) (id:=tick)) (o2.rot3) (by simp) w hl fun s c3 d3 h3 o3 w3 wd=>?_
 exact hq s c3 d3 h3 (o3.sublist (List.Sublist.cons_cons _ (List.Sublist.cons_cons _ ((List.sublist_cons_self _ _).trans (List.sublist_cons_self _ _))))) w3 wd
theorem ZYO (o:On h (c::l)) (w:Zu p xs c) (hl:xs.length≤1000000) {Q:Sl→Hp→Prop} (hq:∀ s c' d h',On h' (c'::d::l)→Zu p xs c'→Own ZT d s (xs.filter (ofQ id))→Q s h'):
 ZA TP 87 [Value.pointer p,Value.int .i64 id] cSl h Q:=by
 refine c87 ?_
 unfold F87
 refine ZI o fun k1 h1 o1=>?_
 refine ZLZ (f:=⟨148,#[],#[.pointer (some ⟨k1,0,none⟩)]⟩) (ZXZ (k0:=k1) (id:=id)) o1.swap (by simp) w hl fun s c3 d3 h3 o3 w3 wd=>?_
 exact hq s c3 d3 h3 (o3.sublist (List.Sublist.cons_cons _ (List.Sublist.cons_cons _ (List.sublist_cons_self _ _)))) w3 wd
theorem ZRa (o:On h (c::l)) (w:Zu p xs c) (hl:xs.length≤1000000) {Q:Sl→Hp→Prop} (hq:∀ s c' d h',On h' (c'::d::l)→Zu p (ZIP xs id) c'→Own (cI .i64) d s ((xs.filter fun x=>x.Ask==id).map Za.ID)→Q s h'):
 ZA TP 227 [Value.pointer p,Value.int .i64 id] cSl h Q:=by
 refine c227 ?_
 unfold F227
 refine ZI o fun k1 h1 o1=>?_
 refine ZLZ (f:=⟨298,#[],#[.pointer (some ⟨k1,0,none⟩)]⟩) (ZYA (k0:=k1) (id:=id)) o1.swap (by simp) w hl fun s c2 d2 h2 o2 w2 wd2=>?_
 generalize hys:(xs.filter fun x=>x.Ask==id)=ys at wd2
 have hyl:ys.length≤xs.length:=by rw [←hys]; exact List.length_filter_le _ _
 have hlen:=wd2.1
 refine Zb (fun z h'=>∃ (i:Nat) (dO:Hp),z.2=(i:Int)∧i≤ys.length∧On h' (dO::c2::d2::ob k1 [Value.int .i64 id] 2::l)∧Own (cI .i64) dO z.1 ((ys.take i).map Za.ID)) (fun z=>ys.length-z.2.toNat)
  ⟨0,Hp.emp,rfl,Nat.zero_le _,o2.emp,Own.nil _⟩ ?_
 rintro J ⟨z,zi⟩ h3 again ⟨i,dO,hzi,hle,o3,w3⟩
 dsimp only at hzi w3
 subst hzi
 dsimp only
 refine ZH (fun hlt=>?_) fun hge=>?_
 ·have hi:i<ys.length:=by omega
  have a0:ys[i]?=some ys[i]:=List.getElem?_eq_getElem hi
  rw [ZAH (by omega)]
  refine ZM wd2.row (Int.natCast_nonneg i) (by omega) fun a ha=>ZO wd2.row (o3.mem (by simp)) rfl ha (i:=i) a0 (by rfl) ?_
  refine ZI o3 fun k4 h4 o4=>?_
  refine ZV (g:=ob k4 [Value.int .i64 ys[i].ID] 2) (s:=z) (t:=⟨some ⟨k4,0,none⟩,1,1⟩) (ys:=[ys[i].ID]) o4.swap rfl w3 (by decide) (Zf (by rfl) rfl) (o4.get (i:=0) rfl) ?_ fun d5 p n m h5 o5 w5=>?_
  ·rw [List.length_singleton,List.length_map,List.length_take]
   exact Nat.le_trans (Nat.mul_le_mul_right _ (show _≤1000001 by omega)) (by decide)
  ·refine again _ _ ⟨i+1,d5,rfl,by omega,o5.sublist (List.Sublist.cons_cons _ (List.sublist_cons_self _ _)),?_⟩ (by dsimp only; omega)
   rw [List.take_add_one,a0,List.map_append]
   exact w5
 ·have hie:i=ys.length:=by omega
  subst hie
  rw [List.take_length] at w3
  obtain ⟨b,sl,d,rfl,oc,wd⟩:=w2
  refine Zd rfl ?_
  have o4:On h3 (c2::dO::d2::ob k1 [Value.int .i64 id] 2::l):=o3.swap
  have o5:On h3 (ob b [sv sl] 172::d::dO::d2::ob k1 [Value.int .i64 id] 2::l):=o4.split oc
  dsimp only [ZR]
  refine ZJ (x:=sl) o5 0 rfl rfl ?_
  refine ZLW (f:=⟨300,#[],#[.pointer (some ⟨k1,0,none⟩)]⟩) (ZXd (k0:=k1) (id:=id)) o5.swap (by simp) wd hl fun s6 c6 h6 o6 w6=>?_
  refine ZZ (cd:=cSl) (i:=0) (x:=s6) (vs':=[sv s6]) o6.swap rfl rfl (Nat.le_refl 1) fun h7 o7=>?_
  obtain ⟨c8,o8,w8⟩:=ZAR.close o7 w6
  refine hq z c8 dO h7 (o8.sublist (List.Sublist.cons_cons _ (List.Sublist.cons_cons _ ((List.sublist_cons_self _ _).trans (List.sublist_cons_self _ _))))) w8 ?_
  rw [hys]
  exact w3
theorem ZXG {x:Za} (o:On h (c::l)) (w:Zu p xs c) (hs:Srt Za.ID xs) (hx:∀ y∈xs,y.ID<x.ID) (hl:xs.length≤1000000) {Q:Int×Int→Hp→Prop} (hq:∀ old c' h',On h' (c'::l)→Zu p (ZIp xs x).1 c'→Q (old,(ZIp xs x).2) h'):
 ZA TP 208 [Value.pointer p,ZT.enc x] (ZW [cI .i64,cI .i64]) h Q:=by
 refine c208 ?_
 unfold F208
 refine ZJG o w hs hl fun i c1 h1 o1 w1 hi _ hall=>?_
 have hi:=hall hx
 subst hi
 unfold ZIp at hq
 refine ZN (fun t h'=>h'=h1∧t=decide ((xs.findIdx? fun y=>y.ID==x.ID).isSome=true∨ZZA x=true)) ?_ fun J hJ=>?_
 ·rintro t h' ⟨rfl,rfl⟩
  refine ZH (fun hc=>?_) fun hc=>?_
  ·rw [if_pos hc] at hq
   exact hq 0 c1 h' o1 w1
  ·rw [if_neg hc] at hq
   obtain ⟨b,sl,d,rfl,oc,wd⟩:=w1
   have hlen:=wd.1
   have o2:=o1.split oc
   dsimp only [ZR]
   refine ZJ (x:=sl) o2 0 rfl rfl ?_
   refine Zb (fun z h'=>∃ (i:Nat) (d:Hp),z.2=(i:Int)∧i≤xs.length∧On h' (ob b [sv sl] 172::d::l)∧Own ZT d sl ((xs.take i).map (ZGi x)++xs.drop i)) (fun z=>xs.length-z.2.toNat)
    ⟨0,d,rfl,Nat.zero_le _,o2,by simpa using wd⟩ ?_
   rintro J ⟨z,zi⟩ h3 again ⟨i,d3,hzi,hle,o3,w3⟩
   dsimp only at hzi
   subst hzi
   dsimp only
   refine ZH (fun hlt=>?_) fun hge=>?_
   ·have hi:i<xs.length:=by omega
    have htl:((xs.take i).map (ZGi x)).length=i:=by rw [List.length_map,List.length_take]; omega
    have a1:((xs.take i).map (ZGi x)++xs.drop i)[i]?=some xs[i]:=by
     rw [List.getElem?_append_right (by omega),htl,Nat.sub_self,List.getElem?_drop,Nat.add_zero,List.getElem?_eq_getElem hi]
    have estep:(xs.take (i+1)).map (ZGi x)++xs.drop (i+1)=((xs.take i).map (ZGi x)++xs.drop i).set i (ZGi x xs[i]):=by
     rw [List.take_add_one,List.getElem?_eq_getElem hi,List.map_append,List.append_assoc,List.set_append_right _ _ (by omega),htl,Nat.sub_self,List.drop_eq_getElem_cons hi]
     rfl
    rw [ZAH (by omega)]
    have hl3:((xs.take i).map (ZGi x)++xs.drop i).length=xs.length:=by rw [List.length_append,htl,List.length_drop]; omega
    refine ZN (fun n h'=>∃ d,On h' (ob b [sv sl] 172::d::l)∧Own ZT d sl ((xs.take (i+1)).map (ZGi x)++xs.drop (i+1))) ?_ fun J2 hJ2=>?_
    ·rintro n h4 ⟨d4,o4,w4⟩
     exact again _ _ ⟨i+1,d4,rfl,by omega,o4,w4⟩ (by dsimp only; omega)
    ·refine ZJ (x:=sl) o3 0 rfl rfl ?_
     refine ZM w3.row (Int.natCast_nonneg i) (by rw [hl3]; omega) fun a ha=>?_
     have e:=w3.part_at ha (m:=(i:Int).toNat*6)
     simp only [e]
     refine ZN (fun t h'=>h'=h3∧t=ZZa x xs[i]) ?_ fun J3 hJ3=>?_
     ·rintro t h' ⟨rfl,rfl⟩
      refine ZD (fun ho=>?_) fun ho=>?_
      ·refine Z9 (cd:=ZT) (cf:=cB) o3.swap rfl rfl w3 ha (i:=i) (x0:=xs[i]) a1 (m:=(i:Int).toNat*6) rfl (k:=5) (y:=false) (x':=ZHS xs[i]) rfl (by decide) fun c5 h5 o5 w5=>?_
       have e7:(xs.take (i+1)).map (ZGi x)++xs.drop (i+1)=((xs.take i).map (ZGi x)++xs.drop i).set i (ZHS xs[i]):=by
             rw [estep]; unfold ZGi; rw [if_pos ho]
       rw [←e7] at w5
       have a2:((xs.take (i+1)).map (ZGi x)++xs.drop (i+1))[i]?=some (ZHS xs[i]):=by
             rw [e7,List.getElem?_set_self (by rw [hl3]; omega)]
       refine Zo (cd:=ZT) (cf:=cI .i64) w5.row (o5.mem (by simp)) rfl ha (i:=i) a2 rfl (k:=0) (y:=xs[i].ID) rfl ?_
       exact hJ2 _ h5 ⟨c5,o5.swap,w5⟩
      ·refine hJ2 _ h' ⟨d3,o3,?_⟩
       have e7:ZGi x xs[i]=xs[i]:=by unfold ZGi; rw [if_neg (by rw [ho]; simp)]
       rw [estep,e7]
       have e8:((xs.take i).map (ZGi x)++xs.drop i).set i xs[i]=(xs.take i).map (ZGi x)++xs.drop i:=by
             have:=(List.getElem?_eq_some_iff.1 a1)
             obtain ⟨h1,h2⟩:=this
             conv=>lhs; rw [←h2]
             exact List.set_getElem_self h1
       rw [e8]
       exact w3
     ·unfold ZZa at hJ3
      refine Zo (cd:=ZT) (cf:=cI .i64) w3.row (o3.mem (by simp)) rfl ha (i:=i) a1 rfl (k:=1) (y:=xs[i].Ask) rfl ?_
      refine ZD (fun e1=>?_) fun e1=>hJ3 _ _ ⟨rfl,by rw [e1]; rfl⟩
      refine Zo (cd:=ZT) (cf:=cI .i64) w3.row (o3.mem (by simp)) rfl ha (i:=i) a1 rfl (k:=2) (y:=xs[i].Dealer) rfl ?_
      refine ZD (fun e2=>?_) fun e2=>hJ3 _ _ ⟨rfl,by rw [e1,e2]; rfl⟩
      refine Zo (cd:=ZT) (cf:=cB) w3.row (o3.mem (by simp)) rfl ha (i:=i) a1 rfl (k:=5) (y:=xs[i].Live) rfl ?_
      exact hJ3 _ _ ⟨rfl,by rw [e1,e2]; rfl⟩
   ·have hie:i=xs.length:=by omega
    subst hie
    rw [List.take_length,List.drop_length,List.append_nil] at w3
    refine ZJ (x:=sl) o3 0 rfl rfl ?_
    refine ZI o3 fun k h4 o4=>?_
    refine ZOH (s:=sl) (i:=xs.length) (k:=k) (x:=x) (xs:=xs.map (ZGi x)) (o4.perm (l':=d3::ob k (ZT.enc x).cells.toList 207::ob b [sv sl] 172::l) ?_) w3 (by rw [List.length_map]; exact Nat.le_refl _) (by rw [List.length_map]; exact hl) fun s5 c5 h5 o5 w5=>?_
    ·exact ((List.Perm.swap _ _ _).cons _).trans (List.Perm.swap _ _ _)
    ·rw [List.take_of_length_le (by simp),List.drop_of_length_le (by simp)] at w5
     refine ZZ (cd:=cSl) (i:=0) (x:=s5) (vs':=[sv s5]) o5.swap rfl rfl (Nat.le_refl 1) fun h6 o6=>?_
     obtain ⟨c7,o7,w7⟩:=ZAR.close o6 w5
     exact hq z c7 h6 o7 w7
 ·obtain ⟨b,hp⟩:=w1.some
  refine ZQ (by rw [hp]; rfl) ?_
  refine ZD (fun ht=>hJ _ _ ⟨rfl,(decide_eq_true (.inl ht)).symm⟩) fun ht=>?_
  have ht:(xs.findIdx? fun y=>y.ID==x.ID).isSome=false:=ht
  have key:∀ b,b=ZZA x→J b h1:=fun b hb=>hJ _ _ ⟨rfl,by rw [hb,ht,Bool.eq_iff_iff]; simp⟩
  unfold ZZA at key
  refine ZD (fun e1=>key _ (by rw [e1]; rfl)) fun e1=>ZD (fun e2=>key _ (by rw [e1,e2]; rfl)) fun e2=>ZD (fun e3=>key _ (by rw [e1,e2,e3]; rfl)) fun e3=>ZD (fun e4=>key _ (by rw [e1,e2,e3,e4]; rfl)) fun e4=>key _ (by rw [e1,e2,e3,e4]; rfl)
end
def ZGW (p:Option Addr) (n:Nat) (c:Hp):Prop:=∃ xs:List Due,ZAR ZBY 176 p xs c∧xs.length≤n
section
variable {p:Option Addr} {n:Nat} {c h:Hp} {l:List Hp} {id:Int}
theorem ZV3 (o:On h l) {Q:Option Addr→Hp→Prop} (hq:∀ p c h',On h' (c::l)→ZGW p 0 c→Q p h'):ZA TP 38 [] cP h Q:=by
 refine c38 ?_
 unfold F38
 refine ZI o fun k h1 o1=>?_
 obtain ⟨c,o2,w⟩:=ZAR.new (cd:=ZBY) o1
 exact hq _ c h1 o2 ⟨[],w,Nat.le_refl _⟩
theorem ZNt {k:Int} {xs:List Due} (o:On h (c::l)) (w:ZAR ZBY 176 p xs c) (hl:xs.length≤1000000) {Q:Int→Hp→Prop} (hq:∀ c' h',On h' (c'::l)→ZAR ZBY 176 p xs c'→Q (ZOi (xs.findIdx? fun x=>x.Kind==k&&x.ID==id)) h'):
 ZA TP 149 [Value.pointer p,Value.int .i64 k,Value.int .i64 id] (cI .i64) h Q:=by
 obtain ⟨b,sl,d,rfl,oc,wd⟩:=w
 refine c149 ?_
 unfold F149
 refine ZI (o.split oc) fun k1 h1 o1=>?_
 refine ZI o1 fun k2 h2 o2=>?_
 dsimp only [ZR]
 refine ZJ (x:=sl) o2 2 rfl rfl ?_
 refine ZP9 (f:=⟨231,#[],#[.pointer (some ⟨k1,0,none⟩),.pointer (some ⟨k2,0,none⟩)]⟩) (ZYR (k0:=k1) (k1:=k2) (k:=k) (id:=id)) o2 (by simp) (g:=d) (by simp) wd.row hl fun h3 o3=>?_
 obtain ⟨c4,o4,w4⟩:=ZAR.close o3.tail.tail wd
 exact hq c4 h3 o4 w4
theorem ZVu {x:Due} (o:On h (c::l)) (w:ZGW p n c) (hl:n≤1000000) {Q:Bool→Hp→Prop} (hq:∀ t c' h',On h' (c'::l)→ZGW p (n+1) c'→Q t h'):
 ZA TP 209 [Value.pointer p,ZBY.enc x] cB h Q:=by
 obtain ⟨xs,w,hn⟩:=w
 refine c209 ?_
 unfold F209
 refine ZN (fun t h'=>∃ c',On h' (c'::l)∧ZAR ZBY 176 p xs c') ?_ fun J hJ=>?_
 ·rintro t h' ⟨c1,o1,w1⟩
  refine ZD (fun _=>hq _ c1 h' o1 ⟨xs,w1,by omega⟩) fun _=>?_
  obtain ⟨b,sl,d,rfl,oc,wd⟩:=w1
  have o2:=o1.split oc
  dsimp only [ZR]
  refine ZJ (x:=sl) o2 0 rfl rfl ?_
  refine ZPU (f:=⟨284,#[],#[]⟩) (tv:=x) (ZX1 (b:=x)) o2 (by simp) (g:=d) (by simp) wd.row (by omega) fun i h3 hi _ o3=>?_
  refine ZJ (x:=sl) o3 0 rfl rfl ?_
  refine ZI o3 fun k h4 o4=>?_
  refine ZOp (s:=sl) (i:=i) (k:=k) (x:=x) (xs:=xs) (o4.perm (l':=d::ob k (ZBY.enc x).cells.toList 197::ob b [sv sl] 176::l) ?_) wd hi (by omega) fun s5 c5 h5 o5 w5=>?_
  ·exact ((List.Perm.swap _ _ _).cons _).trans (List.Perm.swap _ _ _)
  ·refine ZZ (cd:=cSl) (i:=0) (x:=s5) (vs':=[sv s5]) o5.swap rfl rfl (Nat.le_refl 1) fun h6 o6=>?_
   obtain ⟨c7,o7,w7⟩:=ZAR.close o6 w5
   refine hq _ c7 h6 o7 ⟨_,w7,?_⟩
   simp only [List.length_append,List.length_cons,List.length_take,List.length_drop]
   omega
 ·obtain ⟨b,hp⟩:=w.some
  refine ZQ (by rw [hp]; rfl) ?_
  exact ZNt o w (by omega) fun c1 h1 o1 w1=>hJ _ _ ⟨c1,o1,w1⟩
theorem ZIU {b:Nat} {sl:Sl} {d:Hp} {xs:List Due} {i j:Nat} (o:On h (ob b [sv sl] 176::d::l)) (wd:Own ZBY d sl xs) (hij:i≤j) (hj:j≤xs.length) {K:Hp→Prop} (hk:∀ c' h',On h' (c'::l)→ZAR ZBY 176 (some ⟨b,0,none⟩) (xs.take i++xs.drop j) c'→K h'):
 ZA TP 139 [Value.slice sl.a sl.len sl.cap,Value.int .i64 (i:Int),Value.int .i64 (j:Int)] cSl h fun s h'=>ZU cSl ⟨b,0,none⟩ s h' K:=
 ZOF o.swap wd hij hj fun s5 c5 h5 o5 w5=>ZZ (cd:=cSl) (i:=0) (x:=s5) (vs':=[sv s5]) o5.swap rfl rfl (Nat.le_refl 1) fun h6 o6=>by
  obtain ⟨c7,o7,w7⟩:=ZAR.close o6 w5
  exact hk c7 h6 o7 w7
theorem ZUI {k:Int} (o:On h (c::l)) (w:ZGW p n c) (hl:n≤1000000) {Q:Bool→Hp→Prop} (hq:∀ t c' h',On h' (c'::l)→ZGW p n c'→Q t h'):
 ZA TP 89 [Value.pointer p,Value.int .i64 k,Value.int .i64 id] cB h Q:=by
 obtain ⟨xs,w,hn⟩:=w
 refine c89 ?_
 unfold F89
 obtain ⟨b,hp⟩:=w.some
 refine ZQ (by rw [hp]; rfl) ?_
 refine ZNt o w (by omega) fun c1 h1 o1 w1=>?_
 cases hf:xs.findIdx? fun x=>x.Kind==k&&x.ID==id with
 | none=>exact Zd rfl (hq _ c1 h1 o1 ⟨xs,w1,hn⟩)
 | some i=>
   obtain ⟨x,hx,_,_,hlt,_⟩:=ZAx hf
   obtain ⟨b,sl,d,rfl,oc,wd⟩:=w1
   refine ZQ (decide_eq_false (by show ¬((i:Nat):Int)<0; omega)) ?_
   dsimp only [ZR]
   have o2:=o1.split oc
   refine ZJ (x:=sl) o2 0 rfl rfl ?_
   show ZA TP 139 [Value.slice sl.a sl.len sl.cap,Value.int .i64 (i:Int),Value.int .i64 (IntKind.i64.wrap ((i:Int)+1))] cSl h1 _
   rw [ZAH (by omega)]
   refine ZIU o2 wd (by omega) (by omega) fun c3 h3 o3 w3=>hq _ c3 h3 o3 ⟨_,w3,?_⟩
   simp only [List.length_append,List.length_take,List.length_drop]
   omega
theorem ZTs {k:Int} (o:On h (c::l)) (w:ZGW p n c) (hl:n≤1000000) {Q:Sl→Hp→Prop} (hq:∀ s (xs:List Due) c' d h',On h' (c'::d::l)→ZGW p n c'→Own ZBY d s xs→xs.length≤n→Q s h'):
 ZA TP 80 [Value.pointer p,Value.int .i64 k] cSl h Q:=by
 obtain ⟨xs,w,hn⟩:=w
 obtain ⟨b,sl,d,rfl,oc,wd⟩:=w
 refine c80 ?_
 unfold F80
 refine ZQ rfl ?_
 have o1:=o.split oc
 have hlen:=wd.1
 have hcap:=wd.le_cap (by decide)
 refine Zb (fun z h'=>∃ i:Nat,z=(i:Int)∧i≤xs.length∧h'=h) (fun z=>xs.length-z.toNat) ⟨0,rfl,Nat.zero_le _,rfl⟩ ?_
 rintro J z h1 again ⟨i,rfl,hi,rfl⟩
 rw [ZAH (by omega)]
 refine ZN (fun t h'=>h'=h1∧(t=true→i<xs.length)) ?_ fun J2 hJ2=>?_
 ·rintro t h' ⟨rfl,ht⟩
  refine ZD (fun e=>?_) fun _=>?_
  ·have:=ht e
   exact again _ _ ⟨i+1,rfl,by omega,rfl⟩ (by omega)
  ·dsimp only [ZR]
   refine ZJ (x:=sl) o1 0 rfl rfl ?_
   refine ⟨by omega,by omega,?_⟩
   simp only [Int.toNat_natCast,Nat.sub_zero]
   have w0:Row ZBY d ⟨Zj sl.a 0 sl.cap 3,i,sl.cap⟩ (xs.take i):=by
    rw [ZIB]
    exact (wd.head rfl (k:=i) (by omega)).row
   refine ZQc (p0:=⟨Zj sl.a 0 sl.cap 3,i,sl.cap⟩) o1 (g:=d) (by simp) w0 (by rw [List.length_take]; omega) fun s3 d3 h3 o3 w3=>?_
   have o4:On h3 (ob b [sv sl] 176::d::d3::l):=o3.perm ((List.Perm.swap _ _ _).trans ((List.Perm.swap _ _ _).cons _))
   refine ZJ (x:=sl) o4 0 rfl rfl ?_
   refine ZIU (i:=0) (j:=i) o4 wd (by omega) (by omega) fun c5 h5 o5 w5=>hq s3 _ c5 d3 h5 o5 ⟨_,w5,?_⟩ w3 ?_
   ·simp only [List.length_append,List.length_take,List.length_drop]
    omega
   ·rw [List.length_take]; omega
 ·dsimp only [ZR]
  refine ZJ (x:=sl) o1 0 rfl rfl ?_
  refine ZH (fun hlt=>?_) fun hge=>hJ2 _ _ ⟨rfl,by simp⟩
  have hi':i<xs.length:=by omega
  refine ZJ (x:=sl) o1 0 rfl rfl ?_
  refine ZM wd.row (Int.natCast_nonneg i) (by omega) fun a ha=>?_
  refine Zo (cd:=ZBY) (cf:=cI .i64) wd.row (o1.mem (by simp)) rfl ha (i:=i) (List.getElem?_eq_getElem hi') rfl (k:=0) (y:=xs[i].Tick) rfl ?_
  exact hJ2 _ _ ⟨rfl,fun _=>hi'⟩
end
theorem ZWP {n:Int} (h1:0≤n) (h2:n<18446744073709551616):IntKind.u64.wrap n=n:=by
 simp [IntKind.wrap,IntKind.signed,IntKind.bits]; omega
theorem ZYs {n:Int} (h:0≤n):ZBM IntKind.u64 n 32=n / 4294967296:=by
 show n.fdiv (2 ^ 32)=_
 rw [Int.fdiv_eq_ediv_of_nonneg _ (by decide)]
 rfl
theorem ZQf {n:Int} (h1:0≤n) (h2:n<4294967296):ZCR IntKind.u64 n 4294967295=n:=by
 obtain ⟨m,rfl⟩:=Int.eq_ofNat_of_zero_le h1
 have hm:m<4294967296:=by omega
 unfold ZCR
 have e:(BitVec.ofInt IntKind.u64.bits (m:Int) &&& BitVec.ofInt IntKind.u64.bits 4294967295).toNat=m:=by
  show (BitVec.ofInt 64 (m:Int) &&& BitVec.ofInt 64 4294967295).toNat=m
  rw [BitVec.toNat_and]
  have e1:(BitVec.ofInt 64 (m:Int)).toNat=m:=by
   show (BitVec.ofInt 64 (m:Int)).toNat=m
   rw [BitVec.ofInt_natCast,BitVec.toNat_ofNat]
   omega
  have e2:(BitVec.ofInt 64 4294967295).toNat=2 ^ 32-1:=by decide
  rw [e1,e2,Nat.and_two_pow_sub_one_eq_mod]
  omega
 rw [e]
 exact ZWP (by omega) (by omega)
theorem ZUV {a b:Int} (ha:0≤a∧a<4294967296) (hb:0≤b∧b<4294967296) {h:Hp} {Q:Int×Int→Hp→Prop} (hq:Q (0,a*b) h):
 ZA TP 364 [Value.int .u64 a,Value.int .u64 b] (ZW [cI .u64,cI .u64]) h Q:=by
 refine c364 ?_
 unfold F364
 have hab0:0≤a*b:=Int.mul_nonneg ha.1 hb.1
 have hab1:a*b<18446744073709551616:=by
  have:a*b≤4294967295*4294967295:=Int.mul_le_mul (by omega) (by omega) hb.1 (by decide)
  omega
 refine ⟨by decide,by decide,by decide,by decide,by decide,?_⟩
 rw [ZYs ha.1,ZYs hb.1,ZQf ha.1 ha.2,ZQf hb.1 hb.2,show a / 4294967296=0 by omega,show b / 4294967296=0 by omega]
 simp only [Int.zero_mul,Int.mul_zero,ZWP hab0 hab1]
 rw [ZWP (n:=0) (by decide) (by decide),ZYs hab0]
 have ht0:0≤a*b / 4294967296:=Int.ediv_nonneg hab0 (by decide)
 have ht1:a*b / 4294967296<4294967296:=by omega
 simp only [Int.zero_add]
 rw [ZWP ht0 (by omega),ZYs ht0,ZQf ht0 ht1,Int.add_zero,ZWP ht0 (by omega),ZYs ht0]
 have e:a*b / 4294967296 / 4294967296=0:=by omega
 rw [e]
 exact hq
theorem ZJA {a b:Int} (ha:0≤a∧a<4294967296) (hb:0≤b∧b<4294967296) {h:Hp} {Q:ZFT×Bool→Hp→Prop} (hq:Q (⟨0,a*b⟩,true) h):
 ZA TP 332 [Value.int .i64 a,Value.int .i64 b] (ZW [ZAe,cB]) h Q:=by
 refine c332 ?_
 unfold F332
 refine ZN (fun t h'=>t=false∧h'=h) ?_ fun J hJ=>?_
 ·rintro t h' ⟨rfl,rfl⟩
  refine ZQ rfl ?_
  rw [ZWP ha.1 (by omega),ZWP hb.1 (by omega)]
  exact ZUV ha hb hq
 ·refine ZQ (decide_eq_false (by omega)) (hJ _ _ ⟨decide_eq_false (by omega),rfl⟩)
theorem ZXA {a b:Int} (ha:0≤a∧a<4611686018427387904) (hb:0≤b∧b<4611686018427387904) {h:Hp} {Q:ZFT×Bool→Hp→Prop} (hq:Q (⟨0,a+b⟩,true) h):
 ZA TP 363 [Value.agg #[Value.int .u64 0,Value.int .u64 a],Value.agg #[Value.int .u64 0,Value.int .u64 b]] (ZW [ZAe,cB]) h Q:=by
 obtain ⟨a,rfl⟩:=Int.eq_ofNat_of_zero_le ha.1
 obtain ⟨b,rfl⟩:=Int.eq_ofNat_of_zero_le hb.1
 refine c363 (p0:=⟨0,(a:Int)⟩) (p1:=⟨0,(b:Int)⟩) ?_
 unfold F363
 refine ZNg (x:=a) (y:=b) (c:=0) (by decide) ?_
 have e1:(a+b+0) % 18446744073709551616=a+b:=by omega
 have e2:(a+b+0) / 18446744073709551616=0:=by omega
 rw [e1,e2]
 refine ZNg (x:=0) (y:=0) (c:=0) (by decide) ?_
 exact ZQ rfl hq
theorem ZRk {a b:Int} {h:Hp} {l:List Hp} (o:On h l) {Q:Int→Hp→Prop} (hq:∀ h',On h' l→Q (ZDG a b) h'):
 ZA TP 333 [Value.agg #[Value.int .u64 0,Value.int .u64 a],Value.agg #[Value.int .u64 0,Value.int .u64 b]] (cI .i64) h Q:=by
 refine c333 (p0:=⟨0,a⟩) (p1:=⟨0,b⟩) ?_
 unfold F333
 refine ZG2 (ZG2 ?_)
 refine ZI o fun k h1 o1=>?_
 refine ZNv (p0:=⟨some ⟨k,0,none⟩,2,2⟩) (xs:=[ZDG 0 0,ZDG a b]) o1 (g:=ob k [Value.int .i64 (ZDG 0 0),Value.int .i64 (ZDG a b)] 3) (by simp) (Zf (by rfl) rfl) (by simp) ?_
 have e:ZSx [ZDG 0 0,ZDG a b]=ZDG a b:=by
  have:ZDG 0 0=0:=rfl
  rw [this]
  simp [ZSx]
  exact fun h=>h.symm
 rw [e]
 exact hq h1 o1.tail
theorem ZRz {a:Int} (ha:0≤a∧a≤9223372036854775807) {h:Hp} {Q:Int×Bool→Hp→Prop} (hq:Q (a,true) h):
 ZA TP 334 [Value.agg #[Value.int .u64 0,Value.int .u64 a]] (ZW [cI .i64,cB]) h Q:=by
 refine c334 (p0:=⟨0,a⟩) ?_
 unfold F334
 refine ZN (fun t h'=>t=false∧h'=h) ?_ fun J hJ=>?_
 ·rintro t h' ⟨rfl,rfl⟩
  refine ZQ rfl ?_
  rw [w64 (by omega) ha.2]
  exact hq
 ·exact ZQ rfl (hJ _ _ ⟨decide_eq_false (by dsimp only; omega),rfl⟩)
def ZKN (a b:Int):Int×Bool:=if 0<b∧a>9223372036854775807-b then (0,false) else (a+b,true)
theorem ZPw {a b:Int} (ha:-9223372036854775808≤a∧a≤9223372036854775807) (hb:0≤b∧b≤9223372036854775807) {h:Hp} {Q:Int×Bool→Hp→Prop} (hq:Q (ZKN a b) h):
 ZA TP 335 [Value.int .i64 a,Value.int .i64 b] (ZW [cI .i64,cB]) h Q:=by
 refine c335 ?_
 unfold F335
 unfold ZKN at hq
 refine ZN (fun t h'=>h'=h∧t=decide (0<b∧a>9223372036854775807-b)) ?_ fun J hJ=>?_
 ·rintro t h' ⟨rfl,rfl⟩
  refine ZH (fun hc=>?_) fun hc=>?_
  ·rwa [if_pos hc] at hq
  ·rw [if_neg hc] at hq
   rw [w64 (by omega) (by omega)]
   exact hq
 ·rw [w64 (n:=9223372036854775807-b) (by omega) (by omega)]
  refine ZH (fun h1=>ZH (fun h2=>hJ _ _ ⟨rfl,(decide_eq_true ⟨h1,h2⟩).symm⟩) fun h2=>ZQ (decide_eq_false (by omega)) (hJ _ _ ⟨rfl,(decide_eq_false (by omega)).symm⟩)) fun h1=>ZQ (decide_eq_false (by omega)) (hJ _ _ ⟨rfl,(decide_eq_false (by omega)).symm⟩)
def ZCi (p:Option Addr) (ps:List Z3) (us:List Int) (c:Hp):Prop:=
 ∃ (b:Nat) (s1 s2:Sl) (d1 d2:Hp),p=some ⟨b,0,none⟩∧On c [ob b [sv s1,sv s2] 170,d1,d2]∧Own Z0 d1 s1 ps∧Own (cI .i64) d2 s2 us∧us.length=ps.length∧∀ u∈us,0≤u∧u≤9223372036854775807
def ZDh (ps:List Z3) (who:Int):Option Z3:=if who<0 then none else ps[who.toNat]?
def ZEV (ps:List Z3) (who:Int):Int:=((ZDh ps who).map Z3.Role).getD 0
def ZSB (role kind:Int):Bool:=
 if kind=6∨kind=7∨kind=8 then role==1||role==2
 else if kind=9∨kind=12∨kind=13∨kind=16 then role==1
 else if kind=10∨kind=11∨kind=14∨kind=15 then role==2
 else kind==17&&role==3
def ZIL (ps:List Z3) (who dealers:Int):Int:=match ZDh ps who with
 | none=>5
 | some x=>if x.Role≠1 then 5 else if dealers=0∨ZGA .u64 dealers x.Asks≠0 then 1 else 0
def ZEW (ps:List Z3) (us:List Int) (who price qty:Int):Int×Int:=match ZDh ps who with
 | none=>(0,5)
 | some x=>if x.Role≠2 then (0,5) else if price<1∨qty<1 then (0,1) else
   if (ZKN ((us[who.toNat]?).getD 0) (price*qty)).2=false then (0,15) else if x.Cap<(ZKN ((us[who.toNat]?).getD 0) (price*qty)).1 then (0,14) else ((ZKN ((us[who.toNat]?).getD 0) (price*qty)).1,0)
def ZK2 (ps:List Z3) (us:List Int) (who price qty:Int):List Int×Int:=
 if (ZEW ps us who price qty).2=0 then (us.set who.toNat (ZEW ps us who price qty).1,0) else (us,(ZEW ps us who price qty).2)
section
variable {p:Option Addr} {ps:List Z3} {us:List Int} {c h:Hp} {l:List Hp} {who:Int}
theorem ZLN (hc:c.sub h) (w:ZCi p ps us c) {Q:Int→Hp→Prop} (hq:Q (ZEV ps who) h):ZA TP 199 [Value.pointer p,Value.int .i64 who] (cI .i64) h Q:=by
 obtain ⟨b,s1,s2,d1,d2,rfl,oc,w1,w2,hu,_⟩:=w
 have hlen:=w1.1
 have hob:(ob b [sv s1,sv s2] 170).sub h:=Hp.sub_trans (oc.mem (by simp)) hc
 have hd1:d1.sub h:=Hp.sub_trans (oc.mem (by simp)) hc
 refine c199 ?_
 unfold F199
 unfold ZEV ZDh at hq
 refine ZN (fun t h'=>h'=h∧t=decide (who<0∨who≥ps.length)) ?_ fun J hJ=>?_
 ·rintro t h' ⟨rfl,rfl⟩
  refine ZH (fun hc=>?_) fun hc=>?_
  ·have e:((if who<0 then none else ps[who.toNat]?).map Z3.Role).getD 0=0:=by
    split
    ·rfl
    ·rw [List.getElem?_eq_none (by omega)]; rfl
   rwa [e] at hq
  ·rw [if_neg (by omega),List.getElem?_eq_getElem (by omega:who.toNat<ps.length)] at hq
   dsimp only [ZR]
   refine ZF (cd:=cSl) (x:=s1) hob (i:=0) rfl ?_
   refine ZM w1.row (by omega) (by omega) fun a ha=>?_
   exact Zo (cd:=Z0) (cf:=cI .i64) w1.row hd1 rfl ha (i:=who.toNat) (List.getElem?_eq_getElem (by omega)) rfl (k:=0) (y:=ps[who.toNat].Role) rfl hq
 ·refine ZQ rfl (ZH (fun h1=>hJ _ _ ⟨rfl,(decide_eq_true (.inl h1)).symm⟩) fun h1=>?_)
  dsimp only [ZR]
  refine ZF (cd:=cSl) (x:=s1) hob (i:=0) rfl ?_
  refine hJ _ _ ⟨rfl,?_⟩
  exact decide_eq_decide.2 (by omega)
theorem ZXf {kind:Int} (hc:c.sub h) (w:ZCi p ps us c) {Q:Bool→Hp→Prop} (hq:Q (ZSB (ZEV ps who) kind) h):ZA TP 130 [Value.pointer p,Value.int .i64 who,Value.int .i64 kind] cB h Q:=by
 refine c130 ?_
 unfold F130
 refine ZLN hc w ?_
 generalize ZEV ps who=r at hq
 unfold ZSB at hq
 refine ZN (fun t h'=>h'=h∧t=decide (kind=6∨kind=7∨kind=8)) ?_ fun J hJ=>?_
 ·rintro t h' ⟨rfl,rfl⟩
  refine ZH (fun hk=>?_) fun hk=>?_
  ·rw [if_pos hk] at hq
   exact ZD (fun e=>by rwa [e] at hq) fun e=>by rwa [e] at hq
  ·rw [if_neg hk] at hq
   refine ZN (fun t h2=>h2=h'∧t=decide (kind=9∨kind=12∨kind=13∨kind=16)) ?_ fun J hJ=>?_
   ·rintro t h' ⟨rfl,rfl⟩
    refine ZH (fun hk=>?_) fun hk=>?_
    ·rwa [if_pos hk] at hq
    ·rw [if_neg hk] at hq
     refine ZN (fun t h2=>h2=h'∧t=decide (kind=10∨kind=11∨kind=14∨kind=15)) ?_ fun J hJ=>?_
     ·rintro t h' ⟨rfl,rfl⟩
      refine ZH (fun hk=>?_) fun hk=>?_
      ·rwa [if_pos hk] at hq
      ·rw [if_neg hk] at hq
       exact ZD (fun e=>by rwa [e] at hq) fun e=>by rwa [e] at hq
     ·refine ZD (fun e=>hJ _ _ ⟨rfl,?_⟩) fun e=>ZD (fun e2=>hJ _ _ ⟨rfl,?_⟩) fun e2=>ZD (fun e3=>hJ _ _ ⟨rfl,?_⟩) fun e3=>hJ _ _ ⟨rfl,?_⟩
      all_goals (rw [Bool.eq_iff_iff]; simp_all)
   ·refine ZD (fun e=>hJ _ _ ⟨rfl,?_⟩) fun e=>ZD (fun e2=>hJ _ _ ⟨rfl,?_⟩) fun e2=>ZD (fun e3=>hJ _ _ ⟨rfl,?_⟩) fun e3=>hJ _ _ ⟨rfl,?_⟩
    all_goals (rw [Bool.eq_iff_iff]; simp_all)
 ·refine ZD (fun e=>hJ _ _ ⟨rfl,?_⟩) fun e=>ZD (fun e2=>hJ _ _ ⟨rfl,?_⟩) fun e2=>hJ _ _ ⟨rfl,?_⟩
  all_goals (rw [Bool.eq_iff_iff]; simp_all)
theorem ZIh {x:Z3} (h:ZDh ps who=some x):ZEV ps who=x.Role:=by unfold ZEV; rw [h]; rfl
theorem ZGE (h:ZDh ps who=none):ZEV ps who=0:=by unfold ZEV; rw [h]; rfl
theorem ZGf {x:Z3} (h:ZDh ps who=some x):0≤who∧who<ps.length∧ps[who.toNat]?=some x:=by
 unfold ZDh at h
 split at h
 ·cases h
 ·have:=(List.getElem?_eq_some_iff.1 h).1
  exact ⟨by omega,by omega,h⟩
theorem ZTN {ds:Int} (hc:c.sub h) (w:ZCi p ps us c) {Q:Int→Hp→Prop} (hq:Q (ZIL ps who ds) h):ZA TP 220 [Value.pointer p,Value.int .i64 who,Value.int .u64 ds] (cI .i64) h Q:=by
 refine c220 ?_
 unfold F220
 refine ZQ (by obtain ⟨b,s1,s2,d1,d2,rfl,_⟩:=w; rfl) ?_
 refine ZLN hc w ?_
 unfold ZIL at hq
 cases hp:ZDh ps who with
 | none=>
   rw [hp] at hq
   rw [ZGE hp]
   exact Zd rfl hq
 | some x=>
   rw [hp] at hq
   rw [ZIh hp]
   dsimp only at hq
   obtain ⟨h0,h1,hx⟩:=ZGf hp
   refine ZD (fun e=>?_) fun e=>?_
   ·rwa [if_pos (by simpa using e)] at hq
   ·rw [if_neg (by simpa using e)] at hq
    refine ZN (fun t h'=>h'=h∧t=decide (ds=0∨ZGA .u64 ds x.Asks≠0)) ?_ fun J hJ=>?_
    ·rintro t h' ⟨rfl,rfl⟩
     refine ZH (fun hc=>?_) fun hc=>?_
     ·rwa [if_pos hc] at hq
     ·rwa [if_neg hc] at hq
    ·refine ZD (fun e=>hJ _ _ ⟨rfl,?_⟩) fun e=>?_
     ·rw [Bool.eq_iff_iff]; simp_all
     ·obtain ⟨b,s1,s2,d1,d2,rfl,oc,w1,w2,hu,_⟩:=w
      have hlen:=w1.1
      dsimp only [ZR]
      have hob:(ob b [sv s1,sv s2] 170).sub h:=Hp.sub_trans (oc.mem (by simp)) hc
      refine ZF (cd:=cSl) (x:=s1) hob (i:=0) rfl ?_
      refine ZM w1.row h0 h1 fun a ha=>?_
      rw [w1.part_at ha]
      refine Zo (cd:=Z0) (cf:=cI .u64) w1.row (Hp.sub_trans (oc.mem (by simp)) hc) rfl ha (i:=who.toNat) hx rfl (k:=1) (y:=x.Asks) rfl (hJ _ _ ⟨rfl,?_⟩)
      rw [Bool.eq_iff_iff]; simp_all
theorem ZQ3 {price qty:Int} (hc:c.sub h) (w:ZCi p ps us c) (h1:price≤1000000) (h2:qty≤1000000) {Q:Int×Int→Hp→Prop} (hq:Q (ZEW ps us who price qty) h):
 ZA TP 291 [Value.pointer p,Value.int .i64 who,Value.int .i64 price,Value.int .i64 qty] (ZW [cI .i64,cI .i64]) h Q:=by
 refine c291 ?_
 unfold F291
 refine ZQ (by obtain ⟨b,s1,s2,d1,d2,rfl,_⟩:=w; rfl) ?_
 refine ZLN hc w ?_
 unfold ZEW at hq
 cases hp:ZDh ps who with
 | none=>
   rw [hp] at hq
   rw [ZGE hp]
   exact Zd rfl hq
 | some x=>
   rw [hp] at hq
   rw [ZIh hp]
   dsimp only at hq
   obtain ⟨h0,hlt,hx⟩:=ZGf hp
   refine ZD (fun e=>?_) fun e=>?_
   ·rwa [if_pos (by simpa using e)] at hq
   ·rw [if_neg (by simpa using e)] at hq
    refine ZN (fun t h'=>h'=h∧t=decide (price<1∨qty<1)) ?_ fun J hJ=>?_
    ·rintro t h' ⟨rfl,rfl⟩
     refine ZH (fun hc1=>?_) fun hc1=>?_
     ·rwa [if_pos hc1] at hq
     ·rw [if_neg hc1] at hq
      have hn0:0≤price*qty:=Int.mul_nonneg (by omega) (by omega)
      have hbig:price*qty≤9223372036854775807:=Int.le_trans (Int.mul_le_mul h1 h2 (by omega) (by decide)) (by decide)
      refine ZJA ⟨by omega,by omega⟩ ⟨by omega,by omega⟩ ?_
      refine ZRz ⟨hn0,hbig⟩ (ZQ rfl ?_)
      obtain ⟨b,s1,s2,d1,d2,rfl,oc,w1,w2,hu,hr⟩:=w
      have hl1:=w1.1
      have hl2:=w2.1
      have hob:(ob b [sv s1,sv s2] 170).sub h':=Hp.sub_trans (oc.mem (by simp)) hc
      have hd1:d1.sub h':=Hp.sub_trans (oc.mem (by simp)) hc
      have hd2:d2.sub h':=Hp.sub_trans (oc.mem (by simp)) hc
      have hlu:who.toNat<us.length:=by omega
      dsimp only [ZR]
      refine ZF (cd:=cSl) (x:=s2) hob (i:=1) rfl ?_
      refine ZM w2.row h0 (by omega) fun a ha=>ZO w2.row hd2 rfl ha (i:=who.toNat) (List.getElem?_eq_getElem hlu) rfl ?_
      have hrr:=hr us[who.toNat] (List.getElem_mem hlu)
      have eg:(us[who.toNat]?).getD 0=us[who.toNat]:=by rw [List.getElem?_eq_getElem hlu]; rfl
      rw [eg] at hq
      refine ZPw (by omega) ⟨hn0,hbig⟩ ?_
      refine ZD (fun e=>?_) fun e=>?_
      ·rwa [if_pos (by simpa using e)] at hq
      ·rw [if_neg (by simpa using e)] at hq
       refine ZF (cd:=cSl) (x:=s1) hob (i:=0) rfl ?_
       refine ZM w1.row h0 hlt fun a ha=>?_
       rw [w1.part_at ha]
       refine Zo (cd:=Z0) (cf:=cI .i64) w1.row hd1 rfl ha (i:=who.toNat) hx rfl (k:=2) (y:=x.Cap) rfl ?_
       refine ZH (fun hc=>?_) fun hc=>?_
       ·rwa [if_pos (by omega)] at hq
       ·rwa [if_neg (by omega)] at hq
    ·refine ZH (fun h1=>hJ _ _ ⟨rfl,(decide_eq_true (.inl h1)).symm⟩) fun h1=>hJ _ _ ⟨rfl,decide_eq_decide.2 (by omega)⟩
end
def inB (n a b:Int):Bool:=decide (a≤n∧n≤b)
def ZL0 (b:Bond):Bool:=
 (inB b.Tick 1 1000000&&(inB b.Low 1 1000000&&inB b.High b.Low 1000000))&&((inB b.Lot 1 1000000&&(inB b.Min 1 1000000&&inB b.Max b.Min 1000000))&&decide (b.Max-b.Max.tmod b.Lot≥b.Min))
def ZE8 (ps:List Z3):Nat→Int
 | 0=>0
 | i+1=>match ps[i]? with
   | some x=>if x.Role=2 then orI .u64 (ZE8 ps i) (ZLt .u64 1 i) else ZE8 ps i
   | none=>ZE8 ps i
def ZM2 (all:Int) (x:Z3):Bool:=
 if x.Role=1 then ZGA .u64 x.Asks all==0&&x.Cap==0
 else if x.Role=2 then x.Asks==0&&inB x.Cap 0 1099511627776
 else x.Role==3&&(x.Asks==0&&x.Cap==0)
def ZCt (bs:List Bond) (ps:List Z3) (look beat:Int):Bool:=
 inB bs.length 1 4&&(inB ps.length 1 8&&((!bs.any fun b=>!ZL0 b)&&((!ps.any fun x=>!ZM2 (ZE8 ps ps.length) x)&&(inB look 1 1000&&inB beat 1 1000))))
theorem ZIA {n a b:Int} {h:Hp} {Q:Bool→Hp→Prop} (hq:Q (inB n a b) h):ZA TP 195 [Value.int .i64 n,Value.int .i64 a,Value.int .i64 b] cB h Q:=ZWU hq
theorem ZKJ {n a b:Int} {h:Hp} {Q:Bool→Hp→Prop} (hq:Q (inB n a b) h):ZA TP 117 [Value.int .i64 n,Value.int .i64 a,Value.int .i64 b] cB h Q:=by
 refine c117 ?_
 unfold F117
 exact ZMC hq
theorem ZR3 {b:Bond} {h:Hp} {Q:Bool→Hp→Prop} (hq:Q (ZL0 b) h):ZA TP 119 [Z8.enc b] cB h Q:=by
 refine c119 ?_
 unfold F119
 unfold ZL0 at hq
 generalize h1:(inB b.Tick 1 1000000&&(inB b.Low 1 1000000&&inB b.High b.Low 1000000))=A at hq
 generalize h2:(inB b.Lot 1 1000000&&(inB b.Min 1 1000000&&inB b.Max b.Min 1000000))=B at hq
 refine ZN (fun t h'=>h'=h∧t=A) ?_ fun J hJ=>?_
 ·rintro t h' ⟨rfl,rfl⟩
  refine ZN (fun t2 h2=>h2=h'∧t2=B) ?_ fun J hJ=>?_
  ·rintro t2 h' ⟨rfl,rfl⟩
   refine ZD (fun e=>?_) fun e=>?_
   ·subst e
    refine ZD (fun e=>?_) fun e=>?_
    ·subst e
     simp only [Bool.and_eq_true,inB,decide_eq_true_eq] at h2
     refine ⟨by omega,?_⟩
     have hm0:0≤b.Max.tmod b.Lot:=Int.tmod_nonneg _ (by omega)
     have hm1:b.Max.tmod b.Lot<b.Lot:=by
      rw [Int.tmod_eq_emod_of_nonneg (by omega)]
      exact Int.emod_lt_of_pos _ (by omega)
     rw [w64 (by omega) (by omega)]
     exact hq
    ·subst e; exact hq
   ·subst e; exact hq
  ·refine ZIA (ZD (fun e=>?_) fun e=>?_)
   ·refine ZIA (ZD (fun e2=>?_) fun e2=>?_)
    ·refine ZIA (hJ _ _ ⟨rfl,?_⟩)
     rw [←h2,e,e2]; rfl
    ·refine hJ _ _ ⟨rfl,?_⟩
     rw [←h2,e,e2]; rfl
   ·refine hJ _ _ ⟨rfl,?_⟩
    rw [←h2,e]; rfl
 ·refine ZIA (ZD (fun e=>?_) fun e=>?_)
  ·refine ZIA (ZD (fun e2=>?_) fun e2=>?_)
   ·refine ZIA (hJ _ _ ⟨rfl,?_⟩)
    rw [←h1,e,e2]; rfl
   ·refine hJ _ _ ⟨rfl,?_⟩
    rw [←h1,e,e2]; rfl
  ·refine hJ _ _ ⟨rfl,?_⟩
   rw [←h1,e]; rfl
theorem ZYP:Clo TP [] ⟨118,#[],#[]⟩ (fun x=>[Z8.enc x]) cB (fun b:Bond=>!ZL0 b):=by
 intro x h l Q hcc o hq
 refine ⟨⟨Tryz.f118,_,Tryz.func118,rfl⟩,?_⟩
 refine c118 ?_
 unfold F118
 exact ZR3 (hq h o)
theorem ZT1 {x:Z3} {all:Int} {h:Hp} {Q:Bool→Hp→Prop} (hq:Q (ZM2 all x) h):ZA TP 122 [Z0.enc x,Value.int .u64 all] cB h Q:=by
 refine c122 ?_
 unfold F122
 unfold ZM2 at hq
 refine ZD (fun e=>?_) fun e=>?_
 ·rw [if_pos (by simpa using e)] at hq
  exact ZD (fun e=>by rwa [e] at hq) fun e=>by rwa [e] at hq
 ·rw [if_neg (by simpa using e)] at hq
  refine ZD (fun e=>?_) fun e=>?_
  ·rw [if_pos (by simpa using e)] at hq
   exact ZD (fun e=>by rw [e] at hq; exact ZKJ hq) fun e=>by rwa [e] at hq
  ·rw [if_neg (by simpa using e)] at hq
   exact ZD (fun e=>by rw [e] at hq; exact ZD (fun e=>by rwa [e] at hq) fun e=>by rwa [e] at hq) fun e=>by rwa [e] at hq
theorem ZXh {k0:Nat} {all:Int}:Clo TP [ob k0 [Value.int .u64 all] 48] ⟨121,#[],#[.pointer (some ⟨k0,0,none⟩)]⟩ (fun x=>[Z0.enc x]) cB (fun x:Z3=>!ZM2 all x):=by
 intro x h l Q hcc o hq
 refine ⟨⟨Tryz.f121,_,Tryz.func121,rfl⟩,?_⟩
 refine c121 ?_
 unfold F121
 have m0:=o.mem (hcc (ob k0 [Value.int .u64 all] 48) (by simp))
 refine ZF (cd:=cI .u64) (x:=all) m0 (i:=0) rfl ?_
 exact ZT1 (hq h o)
theorem ZPV {s:Sl} {g h:Hp} {ps:List Z3} (r:Row Z0 g s ps) (hg:g.sub h) (hl:ps.length≤1000) {Q:Int→Hp→Prop} (hq:Q (ZE8 ps ps.length) h):ZA TP 120 [Value.slice s.a s.len s.cap] (cI .u64) h Q:=by
 refine c120 ?_
 unfold F120
 have hlen:=r.1
 refine Zb (fun z h'=>∃ i:Nat,z=(ZE8 ps i,(i:Int))∧i≤ps.length∧h'=h) (fun z=>ps.length-z.2.toNat) ⟨0,rfl,Nat.zero_le _,rfl⟩ ?_
 rintro J z h' again ⟨i,rfl,hi,rfl⟩
 dsimp only
 refine ZH (fun hlt=>?_) fun hge=>?_
 ·have hi':i<ps.length:=by omega
  have a0:ps[i]?=some ps[i]:=List.getElem?_eq_getElem hi'
  have est:ZE8 ps (i+1)=if ps[i].Role=2 then orI .u64 (ZE8 ps i) (ZLt .u64 1 i) else ZE8 ps i:=by
   conv=>lhs; unfold ZE8
   rw [a0]
  rw [ZAH (by omega)]
  refine ZN (fun n h2=>n=ZE8 ps (i+1)∧h2=h') ?_ fun J2 hJ2=>?_
  ·rintro n h2 ⟨rfl,rfl⟩
   exact again _ _ ⟨i+1,rfl,by omega,rfl⟩ (by dsimp only; omega)
  ·refine ZM r (Int.natCast_nonneg i) (by omega) fun a ha=>ZO r hg rfl ha (i:=i) a0 (by rfl) ?_
   refine ZD (fun e=>⟨Int.natCast_nonneg i,hJ2 _ _ ⟨?_,rfl⟩⟩) fun e=>hJ2 _ _ ⟨?_,rfl⟩
   ·rw [est,if_pos (by simpa using e)]
   ·rw [est,if_neg (by simpa using e)]
 ·have:i=ps.length:=by omega
  subst this
  exact hq
section
variable {h:Hp} {l:List Hp} {sb sp:Sl} {gb gp:Hp} {bs:List Bond} {ps:List Z3} {look beat:Int}
theorem ZOt (o:On h l) (hb:gb∈l) (rb:Row Z8 gb sb bs) (hp:gp∈l) (rp:Row Z0 gp sp ps) (h1:bs.length≤1000) (h2:ps.length≤1000) {Q:Bool→Hp→Prop} (hq:∀ h',On h' l→Q (ZCt bs ps look beat) h'):
 ZA TP 73 [ZAg.enc ⟨sb,sp,look,beat⟩] cB h Q:=by
 refine c73 (p0:=⟨sb,sp,look,beat⟩) ?_
 unfold F73
 have hlb:=rb.1
 have hlp:=rp.1
 unfold ZCt at hq
 refine ZN (fun t h'=>h'=h∧t=(!inB bs.length 1 4||!inB ps.length 1 8)) ?_ fun J hJ=>?_
 ·rintro t h' ⟨rfl,rfl⟩
  refine ZD (fun e=>?_) fun e=>?_
  ·have hq:=hq h' o
   cases e1:inB bs.length 1 4 with
   | false=>rwa [e1] at hq
   | true=>
     rw [e1] at hq e
     cases e2:inB ps.length 1 8 with
     | false=>rwa [e2] at hq
     | true=>rw [e2] at e; cases e
  ·have e1:inB bs.length 1 4=true:=by
    cases e1:inB bs.length 1 4 with
    | true=>rfl
    | false=>rw [e1] at e; cases e
   have e2:inB ps.length 1 8=true:=by
    cases e2:inB ps.length 1 8 with
    | true=>rfl
    | false=>rw [e1,e2] at e; cases e
   rw [e1,e2] at hq
   refine ZPV rp (o.mem hp) h2 ?_
   refine ZI o fun k1 h1 o1=>?_
   refine ZZ (cd:=cI .u64) (i:=0) (x:=ZE8 ps ps.length) (vs':=[Value.int .u64 (ZE8 ps ps.length)]) o1 rfl rfl (Nat.le_refl 1) fun h2 o2=>?_
   refine ZKk (f:=⟨118,#[],#[]⟩) ZYP o2 (by simp) (g:=gb) (by simp [hb]) rb (by omega) fun h3 o3=>?_
   refine ZD (fun e3=>?_) fun e3=>?_
   ·rw [e3] at hq
    refine ZKQ (f:=⟨121,#[],#[.pointer (some ⟨k1,0,none⟩)]⟩) (ZXh (k0:=k1) (all:=ZE8 ps ps.length)) o3 (by simp) (g:=gp) (by simp [hp]) rp (by omega) fun h4 o4=>?_
    refine ZD (fun e4=>?_) fun e4=>?_
    ·rw [e4] at hq
     refine ZKJ (ZD (fun e5=>?_) fun e5=>?_)
     ·rw [e5] at hq
      exact ZKJ (hq h4 o4.tail)
     ·rw [e5] at hq
      exact hq h4 o4.tail
    ·rw [e4] at hq
     exact hq h4 o4.tail
   ·rw [e3] at hq
    exact hq h3 o3.tail
 ·dsimp only
  rw [hlb,hlp]
  refine ZKJ (ZD (fun e=>?_) fun e=>?_)
  ·exact hJ _ _ ⟨rfl,by rw [e]; rfl⟩
  ·refine ZKJ (hJ _ _ ⟨rfl,?_⟩)
   rw [e]; rfl
end
theorem ZKO:∀ n:Nat,Z1 n [Value.int .i64 0]=ZG (cI .i64) (List.replicate n 0)
 | 0=>rfl
 | n+1=>by
   show Value.int .i64 0::Z1 n [Value.int .i64 0]=Value.int .i64 0::ZG (cI .i64) (List.replicate n 0)
   rw [ZKO n]
theorem ZGu {k n:Nat} {e:TypeId}:Own (cI .i64) (ob k (Z1 n [Value.int .i64 0]) e) ⟨some ⟨k,0,none⟩,n,n⟩ (List.replicate n 0):=
 ZBG (rest:=[]) (by rw [ZKO,List.append_nil]) (by simp) (by simp)
section
variable {p:Option Addr} {ps:List Z3} {us:List Int} {c h:Hp} {l:List Hp} {who:Int}
theorem ZOP {sb sp:Sl} {gb gp:Hp} {bs:List Bond} {look beat:Int} (o:On h l) (hb:gb∈l) (rb:Row Z8 gb sb bs) (hp:gp∈l) (rp:Row Z0 gp sp ps) (h1:bs.length≤1000) (h2:ps.length≤1000)
 {Q:Option Addr→Hp→Prop} (hn:ZCt bs ps look beat=true) (hq:∀ p c h',On h' (c::l)→ZCi p ps (List.replicate ps.length 0) c→Q p h'):
 ZA TP 33 [ZAg.enc ⟨sb,sp,look,beat⟩] cP h Q:=by
 refine c33 (p0:=⟨sb,sp,look,beat⟩) ?_
 unfold F33
 have hlp:=rp.1
 refine ZOt o hb rb hp rp h1 h2 fun h3 o3=>?_
 rw [hn]
 refine ZQ rfl ?_
 dsimp only
 refine ZJw o3 (g:=gp) hp rp (by omega) fun s4 d4 h4 o4 w4=>?_
 refine ⟨by omega,by omega,by omega,by omega,?_⟩
 refine ZI o4 fun k5 h5 o5=>?_
 refine ZI o5 fun k6 h6 o6=>?_
 have e:((sp.len:Int)).toNat=ps.length:=by omega
 rw [e] at o5 o6
 obtain ⟨o7,o8⟩:=On.joined (cs:=[ob k6 [sv s4,Value.slice (some ⟨k5,0,none⟩) ps.length ps.length] 170,d4,ob k5 (Z1 ps.length [Value.int .i64 0]) 2]) (l:=l) (o6.perm ((List.Perm.swap _ _ _).cons _))
 refine hq _ _ h6 o7 ⟨k6,s4,⟨some ⟨k5,0,none⟩,ps.length,ps.length⟩,d4,_,rfl,o8,w4,ZGu,by simp,fun u hu=>?_⟩
 have:=List.eq_of_mem_replicate hu
 omega
theorem ZW5 {price qty:Int} (hc:c.sub h) (w:ZCi p ps us c) (h1:price≤1000000) (h2:qty≤1000000) {Q:Int→Hp→Prop} (hq:Q (ZEW ps us who price qty).2 h):
 ZA TP 286 [Value.pointer p,Value.int .i64 who,Value.int .i64 price,Value.int .i64 qty] (cI .i64) h Q:=by
 refine c286 ?_
 unfold F286
 exact ZQ3 hc w h1 h2 hq
theorem ZOC {price qty:Int} (w:ZCi p ps us c) (he:(ZEW ps us who price qty).2=0):0≤who∧who<ps.length∧0≤(ZEW ps us who price qty).1∧(ZEW ps us who price qty).1≤9223372036854775807:=by
 obtain ⟨b,s1,s2,d1,d2,rfl,oc,w1,w2,hu,hr⟩:=w
 unfold ZEW at he ⊢
 cases hp:ZDh ps who with
 | none=>rw [hp] at he; cases he
 | some x=>
   rw [hp] at he
   obtain ⟨h0,hlt,hx⟩:=ZGf hp
   dsimp only at he ⊢
   have hlu:who.toNat<us.length:=by omega
   have eg:(us[who.toNat]?).getD 0=us[who.toNat]:=by rw [List.getElem?_eq_getElem hlu]; rfl
   have hrr:=hr us[who.toNat] (List.getElem_mem hlu)
   rw [eg] at he ⊢
   refine ⟨h0,hlt,?_⟩
   by_cases c1:x.Role≠2
   ·rw [if_pos c1] at he; cases he
   ·rw [if_neg c1] at he ⊢
    by_cases c2:price<1∨qty<1
    ·rw [if_pos c2] at he; cases he
    ·rw [if_neg c2] at he ⊢
     by_cases c3:(ZKN us[who.toNat] (price*qty)).2=false
     ·rw [if_pos c3] at he; cases he
     ·rw [if_neg c3] at he ⊢
      by_cases c4:x.Cap<(ZKN us[who.toNat] (price*qty)).1
      ·rw [if_pos c4] at he; cases he
      ·rw [if_neg c4]
       have hn0:0≤price*qty:=Int.mul_nonneg (by omega) (by omega)
       unfold ZKN at c3 ⊢
       split at c3
       ·exact absurd rfl c3
       ·rename_i hh
        rw [if_neg hh]
        dsimp only
        omega
theorem ZYT {price qty:Int} (o:On h (c::l)) (w:ZCi p ps us c) (h1:price≤1000000) (h2:qty≤1000000) {Q:Int→Hp→Prop} (hq:∀ c' h',On h' (c'::l)→ZCi p ps (ZK2 ps us who price qty).1 c'→Q (ZK2 ps us who price qty).2 h'):
 ZA TP 216 [Value.pointer p,Value.int .i64 who,Value.int .i64 price,Value.int .i64 qty] (cI .i64) h Q:=by
 refine c216 ?_
 unfold F216
 refine ZQ3 (o.mem (by simp)) w h1 h2 ?_
 unfold ZK2 at hq
 refine ZD (fun e=>?_) fun e=>?_
 ·have e:(ZEW ps us who price qty).2=0:=by simpa using e
  rw [if_pos e] at hq
  rw [e]
  obtain ⟨hr1,hr2,hr3,hr4⟩:=ZOC w e
  obtain ⟨b,s1,s2,d1,d2,rfl,oc,w1,w2,hu,hr⟩:=w
  have o1:=o.split oc
  dsimp only [ZR]
  refine ZJ (x:=s2) o1 0 (i:=1) rfl rfl ?_
  refine ZM w2.row hr1 (by omega) fun a ha=>?_
  refine ZB4 (cd:=cI .i64) (xs:=us) (c:=d2) (l:=ob b [sv s1,sv s2] 170::d1::l) (o1.rot3) rfl w2 ha (i:=who.toNat) (by omega) rfl fun c3 h3 o3 w3=>?_
  obtain ⟨o4,o5⟩:=On.joined (cs:=[ob b [sv s1,sv s2] 170,d1,c3]) (l:=l) (o3.perm ((List.Perm.swap _ _ _).trans ((List.Perm.swap _ _ _).cons _)))
  refine hq _ h3 o4 ⟨b,s1,s2,d1,c3,rfl,o5,w1,w3,by rw [List.length_set]; exact hu,fun u hu'=>?_⟩
  rcases List.mem_or_eq_of_mem_set hu' with h|h
  ·exact hr u h
  ·subst h; exact ⟨hr3,hr4⟩
 ·have e:¬(ZEW ps us who price qty).2=0:=by simpa using e
  rw [if_neg e] at hq
  exact hq c h o w
end
theorem ZQ0 {a b:Int} {h:Hp} {Q:ZFT×Bool→Hp→Prop} (hq:∀ z,Q z h):ZA TP 332 [Value.int .i64 a,Value.int .i64 b] (ZW [ZAe,cB]) h Q:=by
 refine c332 ?_
 unfold F332
 refine ZN (fun t h'=>h'=h) ?_ fun J hJ=>ZD (fun _=>hJ _ _ rfl) fun _=>hJ _ _ rfl
 rintro t h' rfl
 refine ZD (fun _=>hq _) fun _=>?_
 refine c364 ?_
 unfold F364
 exact ⟨by decide,by decide,by decide,by decide,by decide,hq _⟩
theorem ZO2 {a:ZFT} {h:Hp} {Q:Int×Bool→Hp→Prop} (hq:∀ z,Q z h):ZA TP 334 [ZAe.enc a] (ZW [cI .i64,cB]) h Q:=by
 refine c334 ?_
 unfold F334
 refine ZN (fun t h'=>h'=h) ?_ fun J hJ=>ZD (fun _=>hJ _ _ rfl) fun _=>hJ _ _ rfl
 rintro t h' rfl
 exact ZD (fun _=>hq _) fun _=>hq _
theorem ZIf {a b:Int} {h:Hp} {Q:Int×Bool→Hp→Prop} (hq:∀ z,Q z h):ZA TP 335 [Value.int .i64 a,Value.int .i64 b] (ZW [cI .i64,cB]) h Q:=by
 refine c335 ?_
 unfold F335
 refine ZN (fun t h'=>h'=h) ?_ fun J hJ=>?_
 ·rintro t h' rfl
  exact ZD (fun _=>hq _) fun _=>hq _
 ·exact ZD (fun _=>ZD (fun _=>hJ _ _ rfl) fun _=>ZD (fun _=>hJ _ _ rfl) fun _=>hJ _ _ rfl) fun _=>ZD (fun _=>hJ _ _ rfl) fun _=>hJ _ _ rfl
theorem ZIn {a b:Int} {h:Hp} {Q:Int×Bool→Hp→Prop} (hq:∀ z,Q z h):ZA TP 337 [Value.int .i64 a,Value.int .i64 b] (ZW [cI .i64,cB]) h Q:=by
 refine c337 ?_
 unfold F337
 refine ZN (fun t h'=>h'=h) ?_ fun J hJ=>?_
 ·rintro t h' rfl
  exact ZD (fun _=>hq _) fun _=>hq _
 ·exact ZD (fun _=>ZD (fun _=>hJ _ _ rfl) fun _=>ZD (fun _=>hJ _ _ rfl) fun _=>hJ _ _ rfl) fun _=>ZD (fun _=>hJ _ _ rfl) fun _=>hJ _ _ rfl
def ZPc (m:Nat) (sl:Sl) (d:Hp):Prop:=∃ xs:List Int,Own (cI .i64) d sl xs∧xs.length=m
def ZIs (p:Option Addr) (c:Hp):Prop:=
 ∃ (b:Nat) (s1 s2:Sl) (d1 d2:Hp) (rows:List Sl) (cash:List Int) (ds:List Hp) (m:Nat),p=some ⟨b,0,none⟩∧On c (ds++[ob b [sv s1,sv s2] 179,d1,d2])∧Own cSl d1 s1 rows∧Own (cI .i64) d2 s2 cash∧cash.length=rows.length∧ZCn (ZPc m) rows ds
theorem ZPc.row {m:Nat} {rows:List Sl} {ds:List Hp} (w:ZCn (ZPc m) rows ds) {i:Nat} (hi:i<rows.length):∃ sl d xs,rows[i]?=some sl∧ds[i]?=some d∧Own (cI .i64) d sl xs∧xs.length=m:=by
 obtain ⟨d,hd,xs,hx⟩:=w.get i rows[i] (List.getElem?_eq_getElem hi)
 exact ⟨rows[i],d,xs,List.getElem?_eq_getElem hi,hd,hx⟩
theorem ZCn.setr {α β:Type} {R:α→β→Prop}:∀ {l:List α} {m:List β},ZCn R l m→∀ (i:Nat) (a:α) (b:β),l[i]?=some a→R a b→ZCn R l (m.set i b)
 | [],[],_,_,_,_,h,_=>by cases h
 | x::l,y::m,h,0,a,b,ha,hab=>by
   cases ha
   exact ⟨hab,h.2⟩
 | x::l,y::m,h,i+1,a,b,ha,hab=>⟨h.1,ZCn.setr h.2 i a b ha hab⟩
 | [],_::_,h,_,_,_,_,_=>h.elim
 | _::_,[],h,_,_,_,_,_=>h.elim
section
variable {c h:Hp} {l:List Hp} {who bond:Int} {b:Nat} {s1 s2:Sl} {d1 d2:Hp} {rows:List Sl} {cash:List Int} {ds:List Hp} {m:Nat}
theorem ZMt (o:On h (ds++(ob b [sv s1,sv s2] 179::d1::d2::l))) (w1:Own cSl d1 s1 rows) (w2:Own (cI .i64) d2 s2 cash) (hc:cash.length=rows.length) (w3:ZCn (ZPc m) rows ds) {Q:Bool→Hp→Prop}
 (hq:∀ t:Bool,(t=true→0≤who∧who<rows.length∧0≤bond∧bond<m)→Q t h):ZA TP 336 [Value.pointer (some ⟨b,0,none⟩),Value.int .i64 who,Value.int .i64 bond] cB h Q:=by
 refine c336 ?_
 unfold F336
 have hl1:=w1.1
 have hl2:=w2.1
 have hob:(ob b [sv s1,sv s2] 179).sub h:=o.mem (by simp)
 have hd1:d1.sub h:=o.mem (by simp)
 refine Zd rfl (ZH (fun h0=>?_) fun _=>hq _ (by simp))
 dsimp only [ZR]
 refine ZF (cd:=cSl) (x:=s2) hob (i:=1) rfl ?_
 refine ZH (fun h1=>ZH (fun h2=>?_) fun _=>hq _ (by simp)) fun _=>hq _ (by simp)
 obtain ⟨sl,d,xs,hsl,hd,wx,hx⟩:=ZPc.row w3 (i:=who.toNat) (by omega)
 refine ZF (cd:=cSl) (x:=s1) hob (i:=0) rfl ?_
 refine ZM w1.row h0 (by omega) fun a ha=>ZO w1.row hd1 rfl ha (i:=who.toNat) hsl rfl ?_
 have:=wx.1
 refine hq _ fun e=>?_
 have e:bond<(sl.len:Int):=by simpa using e
 exact ⟨h0,by omega,h2,by omega⟩
theorem ZIF {i:Nat} {v:Int} {sl:Sl} (o:On h (ds++l)) (w3:ZCn (ZPc m) rows ds) (hi:rows[i]?=some sl) {n:Int} (h0:0≤n) (h1:n<m) {K:Hp→Prop} (hk:∀ ds' h',On h' (ds'++l)→ZCn (ZPc m) rows ds'→K h'):
 Zi sl.a sl.len n fun a=>ZU (cI .i64) (a.add (n.toNat*1)) v h K:=by
 have hlt:=(List.getElem?_eq_some_iff.1 hi).1
 obtain ⟨sl',d,xs,hsl,hd,wx,hx⟩:=ZPc.row w3 hlt
 rw [hi] at hsl
 cases hsl
 refine ZM wx.row h0 (by omega) fun a ha=>?_
 refine ZB4 (cd:=cI .i64) (o.at' i hd) rfl wx ha (i:=n.toNat) (by omega) rfl fun c3 h3 o3 w4=>?_
 exact hk _ h3 (o3.back' (by have:=w3.len; omega)) (ZCn.setr w3 i sl c3 hi ⟨_,w4,by rw [List.length_set]; exact hx⟩)
end
theorem ZQ1 {p:Option Addr} {c h:Hp} {l:List Hp} {t:ZAq} (o:On h (c::l)) (w:ZIs p c) {Q:Int→Hp→Prop} (hq:∀ r c' h',On h' (c'::l)→ZIs p c'→Q r h'):ZA TP 292 [Value.pointer p,Zz.enc t] (cI .i64) h Q:=by
 obtain ⟨b,s1,s2,d1,d2,rows,cash,ds,m,rfl,oc,w1,w2,hc,w3⟩:=w
 have o0:On h (ds++(ob b [sv s1,sv s2] 179::d1::d2::l)):=by
  have:=o.split oc
  rwa [List.append_assoc] at this
 have shut:∀ {h':Hp} {ds':List Hp} {d2':Hp} {cash':List Int},On h' (ds'++(ob b [sv s1,sv s2] 179::d1::d2'::l))→ZCn (ZPc m) rows ds'→Own (cI .i64) d2' s2 cash'→cash'.length=rows.length→∃ c',On h' (c'::l)∧ZIs (some ⟨b,0,none⟩) c':=by
  intro h' ds' d2' cash' o' w3' w2' hc'
  obtain ⟨o7,o8⟩:=On.joined (cs:=ds'++[ob b [sv s1,sv s2] 179,d1,d2']) (l:=l) (by rw [List.append_assoc]; exact o')
  exact ⟨_,o7,b,s1,s2,d1,d2',rows,cash',ds',m,rfl,o8,w1,w2',hc',w3'⟩
 have hl1:=w1.1
 have hl2:=w2.1
 refine c292 ?_
 unfold F292
 refine ZN (fun u h'=>h'=h∧(u=false→(0≤t.Buyer∧t.Buyer<rows.length)∧(0≤t.Seller∧t.Seller<rows.length)∧0≤t.Bond∧t.Bond<m)) ?_ fun J hJ=>?_
 ·rintro u h' ⟨rfl,hu⟩
  refine ZD (fun _=>?_) fun e=>?_
  ·obtain ⟨c',o',w'⟩:=shut o0 w3 w2 hc
   exact hq _ c' h' o' w'
  ·obtain ⟨hb,hs,h0,h1⟩:=hu e
   have hob:(ob b [sv s1,sv s2] 179).sub h':=o0.mem (by simp)
   have hd1:d1.sub h':=o0.mem (by simp)
   have hd2:d2.sub h':=o0.mem (by simp)
   obtain ⟨slb,db,xb,hslb,hdb,wxb,hxb⟩:=ZPc.row w3 (i:=t.Buyer.toNat) (by omega)
   obtain ⟨sls,dS,xS,hsls,hdS,wxS,hxS⟩:=ZPc.row w3 (i:=t.Seller.toNat) (by omega)
   have hsb:db.sub h':=o0.mem (by simp [List.mem_of_getElem? hdb])
   have hss:dS.sub h':=o0.mem (by simp [List.mem_of_getElem? hdS])
   refine ZQ0 fun z1=>ZO2 fun z2=>?_
   dsimp only [ZR]
   refine ZF (cd:=cSl) (x:=s1) hob (i:=0) rfl ?_
   refine ZM w1.row hb.1 (by omega) fun a2 ha2=>ZO w1.row hd1 rfl ha2 (i:=t.Buyer.toNat) hslb rfl ?_
   refine ZM wxb.row h0 (by omega) fun a3 ha3=>ZO wxb.row hsb rfl ha3 (i:=t.Bond.toNat) (List.getElem?_eq_getElem (by omega)) rfl ?_
   refine ZIf fun z3=>?_
   refine ZF (cd:=cSl) (x:=s1) hob (i:=0) rfl ?_
   refine ZM w1.row hs.1 (by omega) fun a5 ha5=>ZO w1.row hd1 rfl ha5 (i:=t.Seller.toNat) hsls rfl ?_
   refine ZM wxS.row h0 (by omega) fun a6 ha6=>ZO wxS.row hss rfl ha6 (i:=t.Bond.toNat) (List.getElem?_eq_getElem (by omega)) rfl ?_
   refine ZIn fun z4=>?_
   refine ZF (cd:=cSl) (x:=s2) hob (i:=1) rfl ?_
   refine ZM w2.row hb.1 (by omega) fun a8 ha8=>ZO w2.row hd2 rfl ha8 (i:=t.Buyer.toNat) (List.getElem?_eq_getElem (by omega)) rfl ?_
   refine ZIn fun z5=>?_
   refine ZF (cd:=cSl) (x:=s2) hob (i:=1) rfl ?_
   refine ZM w2.row hs.1 (by omega) fun a9 ha9=>ZO w2.row hd2 rfl ha9 (i:=t.Seller.toNat) (List.getElem?_eq_getElem (by omega)) rfl ?_
   refine ZIf fun z6=>?_
   refine ZN (fun u h2=>h2=h') ?_ fun J hJ=>?_
   ·rintro u h2 rfl
    refine ZD (fun _=>?_) fun _=>?_
    ·obtain ⟨c',o',w'⟩:=shut o0 w3 w2 hc
     exact hq _ c' h2 o' w'
    ·refine ZF (cd:=cSl) (x:=s1) hob (i:=0) rfl ?_
     refine ZM w1.row hb.1 (by omega) fun a2 ha2=>ZO w1.row hd1 rfl ha2 (i:=t.Buyer.toNat) hslb rfl ?_
     refine ZF (cd:=cSl) (x:=s1) hob (i:=0) rfl ?_
     refine ZM w1.row hs.1 (by omega) fun a5 ha5=>ZO w1.row hd1 rfl ha5 (i:=t.Seller.toNat) hsls rfl ?_
     refine ZIF o0 w3 hslb h0 h1 fun ds3 h3 o3 w33=>?_
     refine ZIF o3 w33 hsls h0 h1 fun ds4 h4 o4 w34=>?_
     have hob4:(ob b [sv s1,sv s2] 179).sub h4:=o4.mem (by simp)
     refine ZF (cd:=cSl) (x:=s2) hob4 (i:=1) rfl ?_
     refine ZF (cd:=cSl) (x:=s2) hob4 (i:=1) rfl ?_
     have pm:∀ (x:Hp) (ds':List Hp),(ds'++(ob b [sv s1,sv s2] 179::d1::x::l)).Perm (x::(ds'++(ob b [sv s1,sv s2] 179::d1::l))):=fun x ds'=>by
          have e1:ds'++(ob b [sv s1,sv s2] 179::d1::x::l)=(ds'++[ob b [sv s1,sv s2] 179,d1])++x::l:=by simp
          have e2:ds'++(ob b [sv s1,sv s2] 179::d1::l)=(ds'++[ob b [sv s1,sv s2] 179,d1])++l:=by simp
          rw [e1,e2]
          exact List.perm_middle
     refine ZM w2.row hb.1 (by omega) fun a9 ha9=>?_
     refine ZB4 (cd:=cI .i64) (o4.perm (pm d2 ds4)) rfl w2 ha9 (i:=t.Buyer.toNat) (by omega) rfl fun c5 h5 o5 w5=>?_
     refine ZM w5.row hs.1 (by rw [List.length_set]; omega) fun a10 ha10=>?_
     refine ZB4 (cd:=cI .i64) o5 rfl w5 ha10 (i:=t.Seller.toNat) (by rw [List.length_set]; omega) rfl fun c6 h6 o6 w6=>?_
     obtain ⟨c',o',w'⟩:=shut (o6.perm (pm c6 ds4).symm) w34 w6 (by rw [List.length_set,List.length_set]; exact hc)
     exact hq _ c' h6 o' w'
   ·exact ZD (fun _=>hJ _ _ rfl) fun _=>ZD (fun _=>hJ _ _ rfl) fun _=>ZD (fun _=>hJ _ _ rfl) fun _=>ZD (fun _=>hJ _ _ rfl) fun _=>hJ _ _ rfl
 ·refine ZMt o0 w1 w2 hc w3 fun u hu=>?_
  refine ZD (fun _=>hJ _ _ ⟨rfl,by simp⟩) fun e1=>?_
  have e1:u=true:=by simpa using e1
  refine ZMt o0 w1 w2 hc w3 fun v hv=>?_
  refine ZD (fun _=>hJ _ _ ⟨rfl,by simp⟩) fun e2=>?_
  have e2:v=true:=by simpa using e2
  have hu:=hu e1
  have hv:=hv e2
  refine ZD (fun _=>hJ _ _ ⟨rfl,by simp⟩) fun _=>ZD (fun _=>hJ _ _ ⟨rfl,by simp⟩) fun _=>hJ _ _ ⟨rfl,fun _=>⟨⟨hu.1,hu.2.1⟩,⟨hv.1,hv.2.1⟩,hu.2.2⟩⟩
theorem ZSX {s:Sl} {g h:Hp} {bs:List Int} {v:Int} (r:Row (cI .u8) g s bs) (hg:g.sub h) (hl:bs.length≤1000000) {Q:Int→Hp→Prop} (hq:∀ n,Q n h):ZA TP 339 [Value.int .u64 v,Value.slice s.a s.len s.cap] (cI .u64) h Q:=by
 refine c339 ?_
 unfold F339
 have hlen:=r.1
 refine Zb (fun z h'=>∃ i:Nat,z.2=(i:Int)∧i≤bs.length∧h'=h) (fun z=>bs.length-z.2.toNat) ⟨0,rfl,Nat.zero_le _,rfl⟩ ?_
 rintro J ⟨z,zi⟩ h' again ⟨i,hzi,hi,rfl⟩
 dsimp only at hzi
 subst hzi
 dsimp only
 refine ZH (fun hlt=>?_) fun hge=>⟨by decide,hq _⟩
 have hi':i<bs.length:=by omega
 refine ZM r (Int.natCast_nonneg i) (by omega) fun a ha=>ZO r hg rfl ha (i:=i) (List.getElem?_eq_getElem hi') (by rfl) ?_
 rw [ZAH (by omega)]
 exact again _ _ ⟨i+1,rfl,by omega,rfl⟩ (by dsimp only; omega)
def ZCc (t:ZAq):Prop:=I64 t.ID∧I64 t.Bond∧I64 t.Buyer∧I64 t.Seller∧I64 t.Price∧I64 t.Qty∧I64 t.Ask∧I64 t.Tick
def ZCY (p:Option Addr) (xs:List ZAq) (c:Hp):Prop:=∃ (b:Nat) (sl:Sl) (v:Int) (d:Hp),p=some ⟨b,0,none⟩∧On c [ob b [sv sl,Value.int .u64 v] 181,d]∧Own Zz d sl xs
def ZLJ (xs:List ZAq) (t:ZAq):ZAq:={t with ID:=((xs.length+1:Nat):Int)}
theorem ZCY.close {b:Nat} {sl:Sl} {v:Int} {d h:Hp} {l:List Hp} {xs:List ZAq} (o:On h (ob b [sv sl,Value.int .u64 v] 181::d::l)) (w:Own Zz d sl xs):∃ c,On h (c::l)∧ZCY (some ⟨b,0,none⟩) xs c:=by
 obtain ⟨o6,o7⟩:=On.joined (cs:=[ob b [sv sl,Value.int .u64 v] 181,d]) (l:=l) o
 exact ⟨_,o6,b,sl,v,d,rfl,o7,w⟩
section
variable {p:Option Addr} {xs:List ZAq} {c h:Hp} {l:List Hp}
theorem ZWh (o:On h l) {Q:Option Addr→Hp→Prop} (hq:∀ p c h',On h' (c::l)→ZCY p [] c→Q p h'):ZA TP 40 [] cP h Q:=by
 refine c40 ?_
 unfold F40
 refine ZI o fun k1 h1 o1=>?_
 obtain ⟨c,o2,w⟩:=ZCY.close (sl:=⟨none,0,0⟩) (v:=0) (xs:=[]) o1.emp.swap (Own.nil _)
 exact hq _ c h1 o2 w
theorem ZUr (o:On h (c::l)) (w:ZCY p xs c) (hl:xs.length≤1000000) {Q:Sl→Hp→Prop} (hq:∀ s c' d h',On h' (c'::d::l)→ZCY p xs c'→Own Zz d s xs→Q s h'):ZA TP 44 [Value.pointer p] cSl h Q:=by
 obtain ⟨b,sl,v,d,rfl,oc,wd⟩:=w
 refine c44 ?_
 unfold F44
 refine ZQ rfl ?_
 have o1:=o.split oc
 dsimp only [ZR]
 refine ZJ (x:=sl) o1 0 rfl rfl ?_
 refine ZRd o1 (g:=d) (by simp) wd.row hl fun s d2 h2 o2 w2=>?_
 have o3:On h2 (ob b [sv sl,Value.int .u64 v] 181::d::d2::l):=o2.perm ((List.Perm.swap _ _ _).trans ((List.Perm.swap _ _ _).cons _))
 obtain ⟨c2,o4,w4⟩:=ZCY.close o3 wd
 exact hq s c2 d2 h2 o4 w4 w2
theorem ZRG {t:ZAq} (o:On h l) (ht:ZCc t) {Q:Sl→Hp→Prop} (hq:∀ s d h' bs,On h' (d::l)→Own (cI .u8) d s bs→bs.length≤1000000→Q s h'):ZA TP 340 [Zz.enc t] cSl h Q:=by
 refine c340 ?_
 unfold F340
 refine ZI o fun k1 h1 o1=>?_
 have hn:∀ n∈[t.ID,t.Bond,t.Buyer,t.Seller,t.Price,t.Qty,t.Ask,t.Tick],I64 n:=by
  obtain ⟨h1,h2,h3,h4,h5,h6,h7,h8⟩:=ht
  intro n hn
  simp only [List.mem_cons,List.not_mem_nil,or_false] at hn
  rcases hn with rfl|rfl|rfl|rfl|rfl|rfl|rfl|rfl<;>assumption
 refine ZP7 (p0:=⟨some ⟨k1,0,none⟩,8,8⟩) (ns:=[t.ID,t.Bond,t.Buyer,t.Seller,t.Price,t.Qty,t.Ask,t.Tick]) o1 (List.mem_cons_self) (Zf (by rfl) rfl) hn (by simp) fun s d h2 o2 w2=>?_
 refine hq s d h2 _ (o2.sublist (List.Sublist.cons_cons _ (List.sublist_cons_self _ _))) w2 ?_
 have:=ZFY _ hn
 simp only [List.length_cons,List.length_nil] at this
 omega
theorem ZXH {t:ZAq} (o:On h (c::l)) (w:ZCY p xs c) (hl:xs.length≤1000000) (ht:ZCc t) {Q:ZAq→Hp→Prop} (hq:∀ c' h',On h' (c'::l)→ZCY p (xs++[ZLJ xs t]) c'→Q (ZLJ xs t) h'):
 ZA TP 294 [Value.pointer p,Zz.enc t] Zz h Q:=by
 obtain ⟨b,sl,v,d,rfl,oc,wd⟩:=w
 refine c294 ?_
 unfold F294
 refine ZQ rfl ?_
 have o1:=o.split oc
 have hlen:=wd.1
 dsimp only [ZR]
 refine ZJ (x:=sl) o1 0 rfl rfl ?_
 refine ZJ (x:=sl) o1 0 rfl rfl ?_
 have e1:IntKind.i64.wrap ((sl.len:Int)+1)=((xs.length+1:Nat):Int):=by rw [hlen]; exact ZAH (by omega)
 rw [e1]
 refine ZI o1 fun k2 h2 o2=>?_
 refine ZV (cd:=Zz) (g:=ob k2 (Zz.enc (ZLJ xs t)).cells.toList 64) (s:=sl) (t:=⟨some ⟨k2,0,none⟩,1,1⟩) (ys:=[ZLJ xs t]) (o2.rot3) rfl wd (by decide) (Zf (by rfl) rfl) (o2.get (i:=0) rfl) ?_ fun d3 p3 n m h3 o3 w3=>?_
 ·rw [List.length_singleton]
  exact Nat.le_trans (Nat.mul_le_mul_right _ (show _≤1000001 by omega)) (by decide)
 ·refine ZZ (cd:=cSl) (i:=0) (x:=⟨p3,n,m⟩) (vs':=[sv ⟨p3,n,m⟩,Value.int .u64 v]) (o3.rot3) rfl rfl (by show 1≤2; omega) fun h4 o4=>?_
  refine ZJ (cd:=cI .u64) (x:=v) o4 0 (i:=1) rfl rfl ?_
  have ht':ZCc (ZLJ xs t):=⟨by unfold ZLJ I64; dsimp only; omega,ht.2⟩
  refine ZRG (t:=ZLJ xs t) o4 ht' fun s5 d5 h5 bs o5 w5 hbs=>?_
  refine ⟨⟨Hp.sub_rds (o5.get (i:=1) rfl) (ZCC (i:=1) rfl),trivial⟩,?_⟩
  refine ZSX w5.row (o5.mem (by simp)) hbs fun v6=>?_
  refine ZZ (cd:=cI .u64) (i:=1) (x:=v6) (vs':=[sv ⟨p3,n,m⟩,Value.int .u64 v6]) o5.swap rfl rfl (by show 1+1≤2; omega) fun h7 o7=>?_
  have o8:On h7 (ob b [sv ⟨p3,n,m⟩,Value.int .u64 v6] 181::d3::l):=o7.sublist (List.Sublist.cons_cons _ ((List.Sublist.cons_cons _ (List.sublist_cons_self _ _)).trans (List.sublist_cons_self _ _)))
  obtain ⟨c9,o9,w9⟩:=ZCY.close o8 w3
  exact hq c9 h7 o9 w9
end
def ZZZ (t:ZAq) (s who other:Int):Out:=⟨who,28,t.ID,s,t.Bond,t.Price,t.Qty,other⟩
def ZH5 (t:ZAq):List Out:=[ZZZ t 1 t.Buyer t.Seller,ZZZ t 2 t.Seller t.Buyer]
theorem ZWx {t:ZAq} {h:Hp} {l:List Hp} (o:On h l) {Q:Sl→Hp→Prop} (hq:∀ s d h',On h' (d::l)→Own ZCL d s (ZH5 t)→Q s h'):ZA TP 293 [Zz.enc t] cSl h Q:=by
 refine c293 ?_
 unfold F293
 refine c338 (Q:=fun (x1:ZCL.T) h1=>_) ?_
 unfold F338
 refine c338 (Q:=fun (x1:ZCL.T) h1=>_) ?_
 unfold F338
 refine ZI o fun k1 h1 o1=>?_
 exact hq ⟨some ⟨k1,0,none⟩,2,2⟩ _ h1 o1 (ZBG (rest:=[]) rfl rfl (by simp [ZH5]))
theorem ZWK {n m:Int} {h:Hp} {l:List Hp} (o:On h l) (hn:1≤n∧n≤8) (hm:1≤m∧m≤4) {Q:Option Addr→Hp→Prop} (hq:∀ p c h',On h' (c::l)→ZIs p c→Q p h'):ZA TP 39 [Value.int .i64 n,Value.int .i64 m] cP h Q:=by
 refine c39 ?_
 unfold F39
 refine ZN (fun t h'=>t=false∧h'=h) ?_ fun J hJ=>?_
 ·rintro t h' ⟨rfl,rfl⟩
  refine ZQ rfl ?_
  refine ⟨by omega,by omega,by omega,by omega,?_⟩
  refine ZI o fun k1 h1 o1=>?_
  refine ZI o1 fun k2 h2 o2=>?_
  refine Zb (fun z h'=>∃ (i:Nat) (s1:Sl) (d1:Hp) (rows:List Sl) (ds:List Hp),z=(i:Int)∧(i:Int)≤n∧rows.length=i∧On h' (d1::ob k2 [sv s1,sv ⟨some ⟨k1,0,none⟩,n.toNat,n.toNat⟩] 179::ob k1 (Z1 n.toNat [Value.int .i64 0]) 2::(ds++l))∧Own cSl d1 s1 rows∧ZCn (ZPc m.toNat) rows ds) (fun z=>n.toNat-z.toNat)
   ⟨0,⟨none,0,0⟩,Hp.emp,[],[],rfl,by omega,rfl,o2.emp,Own.nil _,trivial⟩ ?_
  rintro J z h3 again ⟨i,s1,d1,rows,ds,rfl,hi,hr,o3,w3,wa⟩
  refine ZH (fun hlt=>?_) fun hge=>?_
  ·refine ZJ (x:=s1) o3 1 (i:=0) rfl rfl ?_
   refine ⟨by omega,by omega,by omega,by omega,?_⟩
   refine ZI o3 fun k4 h4 o4=>?_
   refine ZI o4 fun k5 h5 o5=>?_
   have o5':On h5 (d1::ob k5 [sv ⟨some ⟨k4,0,none⟩,m.toNat,m.toNat⟩] 76::ob k4 (Z1 m.toNat [Value.int .i64 0]) 2::ob k2 [sv s1,sv ⟨some ⟨k1,0,none⟩,n.toNat,n.toNat⟩] 179::ob k1 (Z1 n.toNat [Value.int .i64 0]) 2::(ds++l)):=o5.rot3
   refine ZV (cd:=cSl) (g:=ob k5 [sv ⟨some ⟨k4,0,none⟩,m.toNat,m.toNat⟩] 76) (s:=s1) (t:=⟨some ⟨k5,0,none⟩,1,1⟩) (ys:=[(⟨some ⟨k4,0,none⟩,m.toNat,m.toNat⟩:Sl)]) o5' rfl w3 (by decide) (Zf (by rfl) rfl) (o5'.get (i:=1) rfl) ?_ fun d6 p6 n6 m6 h6 o6 w6=>?_
   ·rw [List.length_singleton]
    exact Nat.le_trans (Nat.mul_le_mul_right _ (show _≤1001 by omega)) (by decide)
   ·have o7:=o6.pull 3 rfl
    refine ZZ (cd:=cSl) (i:=0) (x:=⟨p6,n6,m6⟩) (vs':=[sv ⟨p6,n6,m6⟩,sv ⟨some ⟨k1,0,none⟩,n.toNat,n.toNat⟩]) o7 rfl rfl (by show 1≤2; omega) fun h8 o8=>?_
    rw [ZAH (by omega)]
    refine again _ _ ⟨i+1,⟨p6,n6,m6⟩,d6,rows++[(⟨some ⟨k4,0,none⟩,m.toNat,m.toNat⟩:Sl)],ds++[ob k4 (Z1 m.toNat [Value.int .i64 0]) 2],rfl,by omega,by simp [hr],?_,w6,ZCn.app wa ⟨⟨_,ZGu,by simp⟩,trivial⟩⟩ (by omega)
    have o9:On h8 (ob k2 [sv ⟨p6,n6,m6⟩,sv ⟨some ⟨k1,0,none⟩,n.toNat,n.toNat⟩] 179::d6::ob k4 (Z1 m.toNat [Value.int .i64 0]) 2::ob k1 (Z1 n.toNat [Value.int .i64 0]) 2::(ds++l)):=o8.sublist (List.Sublist.cons_cons _ (List.Sublist.cons_cons _ (List.sublist_cons_self _ _)))
    refine o9.perm ((List.Perm.swap _ _ _).trans ((List.Perm.cons _ (List.Perm.cons _ ?_))))
    refine (List.Perm.swap _ _ _).trans (List.Perm.cons _ ?_)
    rw [List.append_assoc]
    exact (List.perm_middle (l₁:=ds) (a:=ob k4 (Z1 m.toNat [Value.int .i64 0]) 2) (l₂:=l)).symm
  ·have hie:(i:Int)=n:=by omega
   have o4:On h3 ((ds++[ob k2 [sv s1,sv ⟨some ⟨k1,0,none⟩,n.toNat,n.toNat⟩] 179,d1,ob k1 (Z1 n.toNat [Value.int .i64 0]) 2])++l):=by
    refine o3.perm ?_
    rw [List.append_assoc]
    refine (List.Perm.swap _ _ _).trans ?_
    exact List.perm_append_comm_assoc [ob k2 [sv s1,sv ⟨some ⟨k1,0,none⟩,n.toNat,n.toNat⟩] 179,d1,ob k1 (Z1 n.toNat [Value.int .i64 0]) 2] ds l
   obtain ⟨o7,o8⟩:=On.joined o4
   refine hq _ _ h3 o7 ⟨k2,s1,⟨some ⟨k1,0,none⟩,n.toNat,n.toNat⟩,d1,_,rows,_,ds,m.toNat,rfl,o8,w3,ZGu,by rw [List.length_replicate]; omega,wa⟩
 ·exact ZQ (decide_eq_false (by omega)) (ZQ (decide_eq_false (by omega)) (ZQ (decide_eq_false (by omega)) (hJ _ _ ⟨decide_eq_false (by omega),rfl⟩)))
def ZBw (acc:List ZEp) (x:ZE):List ZEp:=
 match acc.getLast? with
 | some v=>if v.Price=x.Price then acc.set (acc.length-1) ⟨v.Price,v.Qty+x.Left⟩ else acc++[⟨x.Price,x.Left⟩]
 | none=>acc++[⟨x.Price,x.Left⟩]
def ZCz (l:List ZE) (s:Int):List ZEp:=(ZAZ l s).foldl ZBw []
def ZPz (ls:List ZEp):Int:=(ls.map ZEp.Qty).sum
def ZA5 (st:Int×Int) (v:ZEp):Int×Int:=(st.1-min st.1 v.Qty,st.2+v.Price*min st.1 v.Qty)
def ZGG (l:List ZE) (s qty:Int):Int×Bool:=if qty<1∨ZPz (ZCz l s)<qty then (0,false) else (((ZCz l s).foldl ZA5 (qty,0)).2,true)
def ZSE (l:List ZE) (s price qty:Int):Int:=
 if ZBK s=false∨price<1∨qty<1 then 1
 else if (ZGG l (ZBq s) qty).2=false then 0
 else if (s=1∧(ZGG l (ZBq s) qty).1<price*qty)∨(s=2∧(ZGG l (ZBq s) qty).1>price*qty) then 13 else 0
def ZKW (n:Int) (ls:List ZEp):Prop:=∀ v∈ls,1≤v.Price∧v.Price≤1000000∧0≤v.Qty∧v.Qty≤n*1000000
theorem ZOx {n:Int} {ls:List ZEp} {x:ZE} (h:ZKW n ls) (hn:0≤n) (h1:1≤x.Left∧x.Left≤1000000) (h2:1≤x.Price∧x.Price≤1000000):ZKW (n+1) (ZBw ls x):=by
 have h0:ZKW (n+1) ls:=fun v hv=>by have:=h v hv; omega
 have ha:ZKW (n+1) (ls++[⟨x.Price,x.Left⟩]):=by
  intro v hv
  rcases List.mem_append.1 hv with hv|hv
  ·exact h0 v hv
  ·simp only [List.mem_singleton] at hv
   subst hv
   dsimp only
   omega
 unfold ZBw
 cases hl:ls.getLast? with
 | none=>exact ha
 | some v=>
   dsimp only
   split
   ·have hv:=h v (List.mem_of_getLast? hl)
    intro u hu
    rcases List.mem_or_eq_of_mem_set hu with hu|hu
    ·exact h0 u hu
    ·subst hu
     dsimp only
     omega
   ·exact ha
theorem ZLj (ls:List ZEp) (x:ZE):(ZBw ls x).length≤ls.length+1:=by
 unfold ZBw
 split
 ·split<;>simp
 ·simp
section
variable {p:Option Addr} {xs:List ZE} {c h:Hp} {l:List Hp}
theorem ZKX {s:Int} (o:On h (c::l)) (w:Zh p xs c) (hs:ZC9 xs) (hsm:ZH1 xs) (hl:xs.length≤1000) {Q:Sl→Hp→Prop}
 (hq:∀ sl c' d' h',On h' (c'::d'::l)→Zh p xs c'→Own ZB7 d' sl (ZCz xs s)→ZKW 1000 (ZCz xs s)→(ZCz xs s).length≤1000→Q sl h'):ZA TP 362 [Value.pointer p,Value.int .i64 s] cSl h Q:=by
 refine c362 ?_
 unfold F362
 refine ZDN o w hs hl fun s1 c1 d1 h1 o1 w1 wd=>?_
 have hsl:=ZBl xs s
 have hmem:∀ x∈ZAZ xs s,x∈xs:=fun x hx=>(Z7.1 hx).1
 unfold ZCz at hq
 generalize ZAZ xs s=ys at*
 have hlen:=wd.1
 refine Zb (fun z h'=>∃ (i:Nat) (dO:Hp),z.2=(i:Int)∧i≤ys.length∧On h' (dO::c1::d1::l)∧Own ZB7 dO z.1 ((ys.take i).foldl ZBw [])∧ZKW i ((ys.take i).foldl ZBw [])∧((ys.take i).foldl ZBw []).length≤i) (fun z=>ys.length-z.2.toNat)
  ⟨0,Hp.emp,rfl,Nat.zero_le _,o1.emp,Own.nil _,(show ZKW _ _ by intro v hv; simp at hv),Nat.zero_le _⟩ ?_
 rintro J ⟨z,zi⟩ h2 again ⟨i,dO,hzi,hle,o2,w2,hk,hkl⟩
 dsimp only at hzi w2
 subst hzi
 dsimp only
 refine ZH (fun hlt=>?_) fun hge=>?_
 ·have hi:i<ys.length:=by omega
  have a0:ys[i]?=some ys[i]:=List.getElem?_eq_getElem hi
  have hx:=hsm _ (hmem _ (List.getElem_mem hi))
  have est:=Z5 ZBw [] ys a0
  generalize ys[i]=x at a0 hx est
  have hk1:=ZOx hk (by omega) ⟨hx.1,hx.2.1⟩ hx.2.2
  have hkl1:=ZLj ((ys.take i).foldl ZBw []) x
  rw [←est] at hk1 hkl1
  rw [ZAH (by omega)]
  refine ZN (fun z h'=>∃ dO,On h' (dO::c1::d1::l)∧Own ZB7 dO z ((ys.take (i+1)).foldl ZBw [])) ?_ fun J2 hJ2=>?_
  ·rintro z3 h3 ⟨d3,o3,w3⟩
   exact again _ _ ⟨i+1,d3,rfl,by omega,o3,w3,hk1,by omega⟩ (by dsimp only; omega)
  ·rw [est] at hJ2
   generalize hacc:(ys.take i).foldl ZBw []=acc at*
   unfold ZBw at hJ2
   have hla:=w2.1
   refine ZM wd.row (Int.natCast_nonneg i) (by omega) fun a ha=>ZO wd.row (o2.mem (by simp)) rfl ha (i:=i) a0 (by rfl) ?_
   by_cases h0:0<acc.length
   ·have hlast:acc.getLast?=some acc[acc.length-1]:=by
     rw [List.getLast?_eq_getElem?,List.getElem?_eq_getElem (by omega)]
    rw [hlast] at hJ2
    dsimp only at hJ2
    have hv:=hk acc[acc.length-1] (List.getElem_mem (by omega))
    have av:acc[acc.length-1]?=some acc[acc.length-1]:=List.getElem?_eq_getElem (by omega)
    generalize acc[acc.length-1]=v at hJ2 hv av
    have el:IntKind.i64.wrap ((z.len:Int)-1)=((acc.length-1:Nat):Int):=by rw [w64 (by omega) (by omega)]; omega
    rw [el]
    refine ZN (fun t h'=>h'=h2∧t=(v.Price==x.Price)) ?_ fun J3 hJ3=>?_
    ·rintro t h' ⟨rfl,rfl⟩
     refine ZD (fun e=>?_) fun e=>?_
     ·rw [if_pos (by simpa using e)] at hJ2
      refine ZM w2.row (Int.natCast_nonneg _) (by omega) fun a ha=>?_
      rw [w2.part_at ha]
      refine Zo (cd:=ZB7) (cf:=cI .i64) w2.row (o2.mem (by simp)) rfl ha (i:=acc.length-1) av rfl (k:=1) (y:=v.Qty) rfl ?_
      rw [w64 (by omega) (by omega)]
      refine ZM w2.row (Int.natCast_nonneg _) (by omega) fun a ha=>?_
      rw [w2.part_at ha]
      refine Z9 (cd:=ZB7) (cf:=cI .i64) o2 rfl rfl w2 ha (i:=acc.length-1) (x0:=v) av rfl (k:=1) (y:=v.Qty+x.Left) (x':=⟨v.Price,v.Qty+x.Left⟩) rfl (by decide) fun c4 h4 o4 w4=>?_
      exact hJ2 _ h4 ⟨c4,o4,w4⟩
     ·rw [if_neg (by simpa using e)] at hJ2
      refine ZI o2 fun k4 h4 o4=>?_
      refine ZV (cd:=ZB7) (g:=ob k4 (ZB7.enc ⟨x.Price,x.Left⟩).cells.toList 441) (s:=z) (t:=⟨some ⟨k4,0,none⟩,1,1⟩) (ys:=[(⟨x.Price,x.Left⟩:ZEp)]) o4.swap rfl w2 (by decide) (Zf (by rfl) rfl) (o4.get (i:=0) rfl) ?_ fun d5 p n m h5 o5 w5=>?_
      ·rw [List.length_singleton]
       exact Nat.le_trans (Nat.mul_le_mul_right _ (show _≤1001 by omega)) (by decide)
      ·exact hJ2 ⟨p,n,m⟩ h5 ⟨d5,o5.sublist (List.Sublist.cons_cons _ (List.sublist_cons_self _ _)),w5⟩
    ·refine Zd (decide_eq_true (by show (z.len:Int)>0; omega)) ?_
     refine ZM w2.row (Int.natCast_nonneg _) (by omega) fun a ha=>?_
     refine Zo (cd:=ZB7) (cf:=cI .i64) w2.row (o2.mem (by simp)) rfl ha (i:=acc.length-1) av rfl (k:=0) (y:=v.Price) rfl ?_
     exact hJ3 _ _ ⟨rfl,rfl⟩
   ·have hnil:acc=[]:=List.length_eq_zero_iff.1 (by omega)
    subst hnil
    refine ZN (fun t h'=>h'=h2∧t=false) ?_ fun J3 hJ3=>?_
    ·rintro t h' ⟨rfl,rfl⟩
     refine ZQ rfl ?_
     refine ZI o2 fun k4 h4 o4=>?_
     refine ZV (cd:=ZB7) (g:=ob k4 (ZB7.enc ⟨x.Price,x.Left⟩).cells.toList 441) (s:=z) (t:=⟨some ⟨k4,0,none⟩,1,1⟩) (ys:=[(⟨x.Price,x.Left⟩:ZEp)]) o4.swap rfl w2 (by decide) (Zf (by rfl) rfl) (o4.get (i:=0) rfl) (by show (0+1)*16≤ZAI; unfold ZAI; omega) fun d5 p n m h5 o5 w5=>?_
     exact hJ2 ⟨p,n,m⟩ h5 ⟨d5,o5.sublist (List.Sublist.cons_cons _ (List.sublist_cons_self _ _)),w5⟩
    ·exact ZQ (decide_eq_false (by show ¬(z.len:Int)>0; rw [hla]; simp)) (hJ3 _ _ ⟨rfl,rfl⟩)
 ·have hie:i=ys.length:=by omega
  subst hie
  rw [List.take_length] at w2 hk hkl
  refine hq z c1 dO h2 (o2.rot3.tail.perm (List.Perm.swap _ _ _)) w1 w2 (fun v hv=>by have:=hk v hv; omega) (by omega)
theorem ZWH {ls:List ZEp} {n:Int} (hk:ZKW n ls) (hn:0≤n):∀ i,0≤ZPz (ls.take i)∧ZPz (ls.take i)≤(i:Int)*(n*1000000):=by
 intro i
 induction i with
 | zero=>simp [ZPz]
 | succ i ih=>
   rw [List.take_add_one]
   unfold ZPz at*
   have hm:((i+1:Nat):Int)*(n*1000000)=(i:Int)*(n*1000000)+n*1000000:=by
    rw [Int.natCast_add,Int.add_mul]; simp
   rw [hm]
   cases hy:ls[i]? with
   | none=>
     simp only [Option.toList_none,List.append_nil]
     have:=Int.mul_nonneg hn (show (0:Int)≤1000000 by decide)
     omega
   | some v=>
     have:=hk v (List.mem_of_getElem? hy)
     simp only [Option.toList_some,List.map_append,List.map_cons,List.map_nil,List.sum_append,List.sum_cons,List.sum_nil]
     omega
theorem ZXn {s:Int} (o:On h (c::l)) (w:Zh p xs c) (hs:ZC9 xs) (hsm:ZH1 xs) (hl:xs.length≤1000) {Q:Int→Hp→Prop} (hq:∀ c' h',On h' (c'::l)→Zh p xs c'→Q (ZPz (ZCz xs s)) h'):ZA TP 361 [Value.pointer p,Value.int .i64 s] (cI .i64) h Q:=by
 refine c361 ?_
 unfold F361
 refine ZKX o w hs hsm hl fun s1 c1 d1 h1 o1 w1 wd hk hkl=>?_
 generalize ZCz xs s=ls at*
 have hlen:=wd.1
 have hsum:=ZWH hk (by decide)
 refine Zb (fun z h'=>∃ i:Nat,z=(ZPz (ls.take i),(i:Int))∧i≤ls.length∧h'=h1) (fun z=>ls.length-z.2.toNat) ⟨0,rfl,Nat.zero_le _,rfl⟩ ?_
 rintro J z h' again ⟨i,rfl,hi,rfl⟩
 dsimp only
 refine ZH (fun hlt=>?_) fun hge=>?_
 ·have hi':i<ls.length:=by omega
  have a0:ls[i]?=some ls[i]:=List.getElem?_eq_getElem hi'
  refine ZM wd.row (Int.natCast_nonneg i) (by omega) fun a ha=>ZO wd.row (o1.mem (by simp)) rfl ha (i:=i) a0 (by rfl) ?_
  have est:ZPz (ls.take i)+ls[i].Qty=ZPz (ls.take (i+1)):=by
   rw [List.take_add_one,a0]
   simp only [ZPz,Option.toList_some,List.map_append,List.map_cons,List.map_nil,List.sum_append,List.sum_cons,List.sum_nil,Int.add_zero]
  have h2:=hsum (i+1)
  have h3:((i+1:Nat):Int)≤1000:=by omega
  have h4:((i+1:Nat):Int)*(1000*1000000)≤1000*(1000*1000000):=Int.mul_le_mul_of_nonneg_right h3 (by decide)
  rw [est,w64 (by omega) (by omega),ZAH (by omega)]
  exact again _ _ ⟨i+1,rfl,by omega,rfl⟩ (by dsimp only; omega)
 ·have hie:i=ls.length:=by omega
  subst hie
  rw [List.take_length]
  exact hq c1 h' (o1.sublist (List.Sublist.cons_cons _ (List.sublist_cons_self _ _))) w1
theorem ZTr {s qty:Int} (o:On h (c::l)) (w:Zh p xs c) (hs:ZC9 xs) (hsm:ZH1 xs) (hl:xs.length≤1000) (hqt:qty≤1000000) {Q:ZFT×Bool→Hp→Prop}
 (hq:∀ c' h',On h' (c'::l)→Zh p xs c'→0≤(ZGG xs s qty).1→Q (⟨0,(ZGG xs s qty).1⟩,(ZGG xs s qty).2) h'):ZA TP 331 [Value.pointer p,Value.int .i64 s,Value.int .i64 qty] (ZW [ZAe,cB]) h Q:=by
 refine c331 ?_
 unfold F331
 unfold ZGG at hq
 refine ZN (fun t h'=>∃ c',On h' (c'::l)∧Zh p xs c'∧t=decide (qty<1∨ZPz (ZCz xs s)<qty)) ?_ fun J hJ=>?_
 ·rintro t h' ⟨c1,o1,w1,rfl⟩
  refine ZH (fun hc=>?_) fun hc=>?_
  ·rw [if_pos hc] at hq
   exact hq c1 h' o1 w1 (Int.le_refl 0)
  ·rw [if_neg hc] at hq
   refine ZKX o1 w1 hs hsm hl fun s2 c2 d2 h2 o2 w2 wd hk hkl=>?_
   generalize ZCz xs s=ls at*
   have hlen:=wd.1
   refine Zb (fun z h'=>∃ i:Nat,z=(((ls.take i).foldl ZA5 (qty,0)).1,(⟨0,((ls.take i).foldl ZA5 (qty,0)).2⟩:ZFT),(i:Int))∧i≤ls.length∧h'=h2∧0≤((ls.take i).foldl ZA5 (qty,0)).1∧((ls.take i).foldl ZA5 (qty,0)).1≤1000000∧0≤((ls.take i).foldl ZA5 (qty,0)).2∧((ls.take i).foldl ZA5 (qty,0)).2≤(i:Int)*1000000000000) (fun z=>ls.length-z.2.2.toNat)
    ⟨0,rfl,Nat.zero_le _,rfl,by show 0≤qty; omega,hqt,Int.le_refl 0,by show (0:Int)≤_; omega⟩ ?_
   rintro J z h' again ⟨i,rfl,hi,rfl,b1,b2,b3,b4⟩
   dsimp only
   refine ZH (fun hlt=>?_) fun hge=>?_
   ·have hi':i<ls.length:=by omega
    have a0:ls[i]?=some ls[i]:=List.getElem?_eq_getElem hi'
    have est:=Z5 ZA5 (qty,0) ls a0
    have hv:=hk ls[i] (List.getElem_mem hi')
    generalize ls[i]=v at a0 est hv
    generalize (ls.take i).foldl ZA5 (qty,0)=st at*
    have hm0:0≤min st.1 v.Qty:=by omega
    have hm1:min st.1 v.Qty≤1000000:=by omega
    have hp0:0≤v.Price*min st.1 v.Qty:=Int.mul_nonneg (by omega) hm0
    have hp1:v.Price*min st.1 v.Qty≤1000000*1000000:=Int.mul_le_mul hv.2.1 hm1 hm0 (by decide)
    have hi6:(i:Int)*1000000000000≤1000*1000000000000:=Int.mul_le_mul_of_nonneg_right (by omega) (by decide)
    have e1:((ls.take (i+1)).foldl ZA5 (qty,0)).1=st.1-min st.1 v.Qty:=by rw [est]; rfl
    have e2:((ls.take (i+1)).foldl ZA5 (qty,0)).2=st.2+v.Price*min st.1 v.Qty:=by rw [est]; rfl
    refine ZM wd.row (Int.natCast_nonneg i) (by omega) fun a ha=>ZO wd.row (o2.mem (by simp)) rfl ha (i:=i) a0 (by rfl) ?_
    rw [ZQF]
    refine ZJA ⟨by omega,by omega⟩ ⟨hm0,by omega⟩ ?_
    refine ZXA (a:=st.2) (b:=v.Price*min st.1 v.Qty) ⟨b3,by omega⟩ ⟨hp0,by omega⟩ ?_
    rw [w64 (by omega) (by omega),ZAH (by omega)]
    refine again _ _ ⟨i+1,by rw [e1,e2],by omega,rfl,by rw [e1]; omega,by rw [e1]; omega,by rw [e2]; omega,?_⟩ (by dsimp only; omega)
    rw [e2,Int.natCast_add,Int.add_mul]
    omega
   ·have hie:i=ls.length:=by omega
    subst hie
    rw [List.take_length] at b3 ⊢
    exact hq c2 h' (o2.sublist (List.Sublist.cons_cons _ (List.sublist_cons_self _ _))) w2 b3
 ·refine ZH (fun h1=>hJ _ _ ⟨c,o,w,(decide_eq_true (.inl h1)).symm⟩) fun h1=>?_
  refine ZXn o w hs hsm hl fun c1 h1' o1 w1=>hJ _ _ ⟨c1,o1,w1,?_⟩
  exact decide_eq_decide.2 (by omega)
theorem ZXF {s price qty:Int} (o:On h (c::l)) (w:Zh p xs c) (hs:ZC9 xs) (hsm:ZH1 xs) (hl:xs.length≤1000) (hpr:price≤1000000) (hqt:qty≤1000000) {Q:Int→Hp→Prop}
 (hq:∀ c' h',On h' (c'::l)→Zh p xs c'→Q (ZSE xs s price qty) h'):ZA TP 290 [Value.pointer p,Value.int .i64 s,Value.int .i64 price,Value.int .i64 qty] (cI .i64) h Q:=by
 refine c290 ?_
 unfold F290
 unfold ZSE at hq
 refine ZN (fun t h'=>h'=h∧t=decide (ZBK s=false∨price<1∨qty<1)) ?_ fun J hJ=>?_
 ·rintro t h' ⟨rfl,rfl⟩
  refine ZH (fun hc=>?_) fun hc=>?_
  ·rw [if_pos hc] at hq
   exact hq c h' o w
  ·rw [if_neg hc] at hq
   refine ZJc (ZTr o w hs hsm hl hqt fun c1 h1 o1 w1 h0=>?_)
   generalize ZGG xs (ZBq s) qty=sw at*
   refine ZD (fun e=>?_) fun e=>?_
   ·rw [if_pos (by simpa using e)] at hq
    exact hq c1 h1 o1 w1
   ·rw [if_neg (by simpa using e)] at hq
    refine ZJA ⟨by omega,by omega⟩ ⟨by omega,by omega⟩ ?_
    refine ZRk (a:=sw.1) (b:=price*qty) o1 fun h2 o2=>?_
    have hn:(ZDG sw.1 (price*qty)<0)=(sw.1<price*qty):=propext ZGl
    have hp:(ZDG sw.1 (price*qty)>0)=(sw.1>price*qty):=by
     unfold ZDG
     apply propext
     split
     ·omega
     ·split<;>omega
    refine ZN (fun t h'=>h'=h2∧t=decide ((s=1∧sw.1<price*qty)∨(s=2∧sw.1>price*qty))) ?_ fun J2 hJ2=>?_
    ·rintro t h' ⟨rfl,rfl⟩
     refine ZH (fun hc=>?_) fun hc=>?_
     ·rw [if_pos hc] at hq
      exact hq c1 h' o2 w1
     ·rw [if_neg hc] at hq
      exact hq c1 h' o2 w1
    ·simp only [hn,hp]
     refine ZD (fun e1=>?_) fun e1=>?_
     ·have e1:s=1:=by simpa using e1
      refine ZH (fun e2=>hJ2 _ _ ⟨rfl,(decide_eq_true (.inl ⟨e1,e2⟩)).symm⟩) fun e2=>?_
      refine ZQ (by rw [e1]; rfl) (hJ2 _ _ ⟨rfl,(decide_eq_false ?_).symm⟩)
      omega
     ·have e1:¬s=1:=by simpa using e1
      refine ZD (fun e2=>hJ2 _ _ ⟨rfl,decide_eq_decide.2 ?_⟩) fun e2=>hJ2 _ _ ⟨rfl,(decide_eq_false ?_).symm⟩
      ·have e2:s=2:=by simpa using e2
       exact ⟨fun h=>.inr ⟨e2,h⟩,fun h=>h.elim (fun h=>absurd h.1 e1) fun h=>h.2⟩
      ·have e2:¬s=2:=by simpa using e2
       exact fun h=>h.elim (fun h=>e1 h.1) fun h=>e2 h.1
 ·refine ZC1 (ZD (fun e=>hJ _ _ ⟨rfl,?_⟩) fun e=>?_)
  ·rw [Bool.eq_iff_iff]; simp_all
  ·refine ZH (fun h1=>hJ _ _ ⟨rfl,?_⟩) fun h1=>hJ _ _ ⟨rfl,?_⟩
   ·rw [Bool.eq_iff_iff]; simp_all
   ·have e:ZBK s=true:=by simpa using e
    exact decide_eq_decide.2 (by rw [e]; simp; omega)
end
def ZRf (s:Int) (a b:Za):Bool:=if a.Price=b.Price then decide (a.ID<b.ID) else ZAC (ZBq s) a.Price b.Price
def ZKz (s:Int) (b q:Za):Za:=if ZRf s q b=true then q else b
def ZJx (s:Int) (l:List Za):Za×Bool:=match l with
 | []=>(ZMI,false)
 | q::t=>if ZBK s=false then (ZMI,false) else ((q::t).foldl (ZKz s) q,true)
theorem ZTp {s:Int} {a b:Za} {h:Hp} {Q:Bool→Hp→Prop} (hq:Q (ZRf s a b) h):ZA TP 288 [Value.int .i64 s,ZT.enc a,ZT.enc b] cB h Q:=by
 refine c288 ?_
 unfold F288
 unfold ZRf at hq
 refine ZD (fun e=>?_) fun e=>?_
 ·rwa [if_pos (by simpa using e)] at hq
 ·rw [if_neg (by simpa using e)] at hq
  exact ZJc (ZJq hq)
theorem ZWC {s:Int} {sl:Sl} {g h:Hp} {qs:List Za} (r:Row ZT g sl qs) (hg:g.sub h) (hl:qs.length≤1000000) {Q:Za×Bool→Hp→Prop} (hq:Q (ZJx s qs) h):
 ZA TP 213 [Value.int .i64 s,Value.slice sl.a sl.len sl.cap] (ZW [ZT,cB]) h Q:=by
 refine c213 ?_
 unfold F213
 have hlen:=r.1
 cases qs with
 | nil=>
   refine ZN (fun t h'=>t=true∧h'=h) ?_ fun J hJ=>?_
   ·rintro t h' ⟨rfl,rfl⟩
    exact Zd rfl hq
   ·refine ZC1 (ZD (fun _=>hJ _ _ ⟨rfl,rfl⟩) fun _=>hJ _ _ ⟨?_,rfl⟩)
    rw [hlen]; rfl
 | cons q t=>
   unfold ZJx at hq
   dsimp only at hq
   refine ZN (fun u h'=>u=(!ZBK s)∧h'=h) ?_ fun J hJ=>?_
   ·rintro u h' ⟨rfl,rfl⟩
    refine ZD (fun e=>?_) fun e=>?_
    ·rwa [if_pos (by simpa using e)] at hq
    ·rw [if_neg (by simpa using e)] at hq
     generalize hqs:q::t=qs at*
     have hq0:qs[0]?=some q:=by rw [←hqs]; rfl
     have hpos:0<qs.length:=by rw [←hqs]; simp
     refine ZM r (Int.le_refl 0) (by omega) fun a ha=>ZO r hg rfl ha (i:=0) hq0 (by rfl) ?_
     refine Zb (fun z h2=>∃ i:Nat,z=((qs.take i).foldl (ZKz s) q,(i:Int))∧i≤qs.length∧h2=h') (fun z=>qs.length-z.2.toNat) ⟨0,rfl,Nat.zero_le _,rfl⟩ ?_
     rintro J z h2 again ⟨i,rfl,hi,rfl⟩
     dsimp only
     refine ZH (fun hlt=>?_) fun hge=>?_
     ·have hi':i<qs.length:=by omega
      have a0:qs[i]?=some qs[i]:=List.getElem?_eq_getElem hi'
      have est:=Z5 (ZKz s) q qs a0
      rw [ZAH (by omega)]
      refine ZN (fun x h3=>x=(qs.take (i+1)).foldl (ZKz s) q∧h3=h2) ?_ fun J2 hJ2=>?_
      ·rintro x h3 ⟨rfl,rfl⟩
       exact again _ _ ⟨i+1,rfl,by omega,rfl⟩ (by dsimp only; omega)
      ·refine ZM r (Int.natCast_nonneg i) (by omega) fun a ha=>ZO r hg rfl ha (i:=i) a0 (by rfl) ?_
       refine ZTp (a:=qs[i]) (b:=(qs.take i).foldl (ZKz s) q) ?_
       refine ZD (fun e=>hJ2 _ _ ⟨?_,rfl⟩) fun e=>hJ2 _ _ ⟨?_,rfl⟩
       ·rw [est]; exact (if_pos e).symm
       ·rw [est]; exact (if_neg (by rw [e]; simp)).symm
     ·have hie:i=qs.length:=by omega
      subst hie
      rw [List.take_length]
      exact hq
   ·refine ZC1 (ZD (fun e=>hJ _ _ ⟨e.symm,rfl⟩) fun e=>hJ _ _ ⟨?_,rfl⟩)
    rw [e,hlen]; rfl
theorem ZPh {h D:Hp} {l ZC2:List Hp} {i:Nat} {c:Hp} (o:On h (D::l)) (oc:On D ZC2) (hi:ZC2[i]?=some c):
 ∃ R,On h (c::R::l)∧On R (ZC2.eraseIdx i)∧∀ h' c' l',On h' (c'::R::l')→∃ D',On h' (D'::l')∧On D' (ZC2.set i c'):=by
 have hlt:i<ZC2.length:=(List.getElem?_eq_some_iff.1 hi).1
 have o1:On h (c::(ZC2.eraseIdx i++l)):=(o.split oc).at' i hi
 have o2:On h (ZC2.eraseIdx i++(c::l)):=o1.perm List.perm_middle.symm
 obtain ⟨o3,o4⟩:=On.joined o2
 refine ⟨_,o3.swap,o4,fun h' c' l' o'=>?_⟩
 have o5:On h' (ZC2.eraseIdx i++(c'::l')):=o'.swap.split o4
 have o6:On h' (c'::((ZC2.set i c').eraseIdx i++l')):=by
  have e:(ZC2.set i c').eraseIdx i=ZC2.eraseIdx i:=by
   rw [List.eraseIdx_eq_take_drop_succ,List.eraseIdx_eq_take_drop_succ,List.take_set_of_le (Nat.le_refl _),List.drop_set_of_lt (by omega)]
  rw [e]
  exact o5.perm List.perm_middle
 have o7:=o6.back' (by rw [List.length_set]; exact hlt)
 rw [List.set_set] at o7
 exact ⟨_,On.joined o7⟩
structure DS where
 bonds:List Bond
 parties:List Z3
 look:Int
 beat:Int
 now:Int
 books:List (List ZE)
 used:List Int
 quotes:List Za
 asks:List Ask
 due:Nat
 trades:List ZAq
 order:Int
 seq:Int
 quote:Int
 ask:Int
structure DK where
 b:Nat
 sb:Sl
 sp:Sl
 sk:Sl
 pf:Option Addr
 pq:Option Addr
 pa:Option Addr
 pd:Option Addr
 pp:Option Addr
 pt:Option Addr
def DK.p (k:DK):Option Addr:=some ⟨k.b,0,none⟩
def ZAF (k:DK) (S:DS):List Value:=
 [sv k.sb,sv k.sp,Value.int .i64 S.look,Value.int .i64 S.beat,Value.int .i64 S.now,sv k.sk,Value.pointer k.pf,Value.pointer k.pq,Value.pointer k.pa,Value.pointer k.pd,Value.pointer k.pp,Value.pointer k.pt,Value.int .i64 S.order,Value.int .i64 S.seq,Value.int .i64 S.quote,Value.int .i64 S.ask]
def Books (ps:List (Option Addr)) (bs:List (List ZE)) (cs:List Hp):Prop:=
 ps.length=bs.length∧cs.length=bs.length∧∀ (i:Nat) (p:Option Addr) (b:List ZE) (c:Hp),ps[i]?=some p→bs[i]?=some b→cs[i]?=some c→Zh p b c
def Zy (k:DK) (S:DS) (D:Hp):Prop:=
 ∃ (dB dP dK cF cQ cA cD cO cT:Hp) (ks:List (Option Addr)) (cs:List Hp),
  On D (ob k.b (ZAF k S) 121::dB::dP::dK::cF::cQ::cA::cD::cO::cT::cs)∧Own Z8 dB k.sb S.bonds∧Own Z0 dP k.sp S.parties∧Own cP dK k.sk ks∧
  ZCi k.pf S.parties S.used cF∧Zu k.pq S.quotes cQ∧ZAt k.pa S.asks cA∧ZGW k.pd S.due cD∧ZIs k.pp cO∧ZCY k.pt S.trades cT∧Books ks S.books cs
section
variable {k:DK} {S:DS} {D h:Hp} {l:List Hp}
theorem Zy.ob (w:Zy k S D) (hD:D.sub h):(ob k.b (ZAF k S) 121).sub h:=by
 obtain ⟨dB,dP,dK,cF,cQ,cA,cD,cO,cT,ks,cs,o,_⟩:=w
 exact Hp.sub_trans (o.mem (by simp)) hD
theorem Zy.firm_sub (w:Zy k S D) (hD:D.sub h):∃ cF,cF.sub h∧ZCi k.pf S.parties S.used cF:=by
 obtain ⟨dB,dP,dK,cF,cQ,cA,cD,cO,cT,ks,cs,o,_,_,_,w,_⟩:=w
 exact ⟨cF,Hp.sub_trans (o.mem (by simp)) hD,w⟩
theorem Zy.bonds_sub (w:Zy k S D) (hD:D.sub h):∃ dB,dB.sub h∧Own Z8 dB k.sb S.bonds:=by
 obtain ⟨dB,dP,dK,cF,cQ,cA,cD,cO,cT,ks,cs,o,w,_⟩:=w
 exact ⟨dB,Hp.sub_trans (o.mem (by simp)) hD,w⟩
theorem Zy.parties_sub (w:Zy k S D) (hD:D.sub h):∃ dB,dB.sub h∧Own Z0 dB k.sp S.parties:=by
 obtain ⟨dB,dP,dK,cF,cQ,cA,cD,cO,cT,ks,cs,o,_,w,_⟩:=w
 exact ⟨dP,Hp.sub_trans (o.mem (by simp)) hD,w⟩
theorem Zy.nums (o:On h (D::l)) (w:Zy k S D):
 ∃ R,On h (Go.Eng.ob k.b (ZAF k S) 121::R::l)∧∀ h' l' now order seq quote ask,On h' (Go.Eng.ob k.b (ZAF k {S with now:=now,order:=order,seq:=seq,quote:=quote,ask:=ask}) 121::R::l')→
  ∃ D',On h' (D'::l')∧Zy k {S with now:=now,order:=order,seq:=seq,quote:=quote,ask:=ask} D':=by
 obtain ⟨dB,dP,dK,cF,cQ,cA,cD,cO,cT,ks,cs,oc,w⟩:=w
 obtain ⟨R,o1,_,hc⟩:=ZPh o oc (i:=0) rfl
 refine ⟨R,o1,fun h' l' now order seq quote ask o'=>?_⟩
 obtain ⟨D',o2,o3⟩:=hc h' _ l' o'
 exact ⟨D',o2,dB,dP,dK,cF,cQ,cA,cD,cO,cT,ks,cs,o3,w⟩
theorem Zy.bonds (o:On h (D::l)) (w:Zy k S D):
 ∃ c R,On h (c::R::l)∧Own Z8 c k.sb S.bonds∧∀ h' c' l' x,On h' (c'::R::l')→Own Z8 c' k.sb x→∃ D',On h' (D'::l')∧Zy k {S with bonds:=x} D':=by
 obtain ⟨dB,dP,dK,cF,cQ,cA,cD,cO,cT,ks,cs,oc,wB,w⟩:=w
 obtain ⟨R,o1,_,hc⟩:=ZPh o oc (i:=1) rfl
 refine ⟨dB,R,o1,wB,fun h' c' l' x o' w'=>?_⟩
 obtain ⟨D',o2,o3⟩:=hc h' _ l' o'
 exact ⟨D',o2,c',dP,dK,cF,cQ,cA,cD,cO,cT,ks,cs,o3,w',w⟩
theorem Zy.firm (o:On h (D::l)) (w:Zy k S D):
 ∃ c R,On h (c::R::l)∧ZCi k.pf S.parties S.used c∧∀ h' c' l' x,On h' (c'::R::l')→ZCi k.pf S.parties x c'→∃ D',On h' (D'::l')∧Zy k {S with used:=x} D':=by
 obtain ⟨dB,dP,dK,cF,cQ,cA,cD,cO,cT,ks,cs,oc,wB,wP,wK,wF,w⟩:=w
 obtain ⟨R,o1,_,hc⟩:=ZPh o oc (i:=4) rfl
 refine ⟨cF,R,o1,wF,fun h' c' l' x o' w'=>?_⟩
 obtain ⟨D',o2,o3⟩:=hc h' _ l' o'
 exact ⟨D',o2,dB,dP,dK,c',cQ,cA,cD,cO,cT,ks,cs,o3,wB,wP,wK,w',w⟩
theorem Zy.quotes (o:On h (D::l)) (w:Zy k S D):
 ∃ c R,On h (c::R::l)∧Zu k.pq S.quotes c∧∀ h' c' l' x,On h' (c'::R::l')→Zu k.pq x c'→∃ D',On h' (D'::l')∧Zy k {S with quotes:=x} D':=by
 obtain ⟨dB,dP,dK,cF,cQ,cA,cD,cO,cT,ks,cs,oc,wB,wP,wK,wF,wQ,w⟩:=w
 obtain ⟨R,o1,_,hc⟩:=ZPh o oc (i:=5) rfl
 refine ⟨cQ,R,o1,wQ,fun h' c' l' x o' w'=>?_⟩
 obtain ⟨D',o2,o3⟩:=hc h' _ l' o'
 exact ⟨D',o2,dB,dP,dK,cF,c',cA,cD,cO,cT,ks,cs,o3,wB,wP,wK,wF,w',w⟩
theorem Zy.asks (o:On h (D::l)) (w:Zy k S D):
 ∃ c R,On h (c::R::l)∧ZAt k.pa S.asks c∧∀ h' c' l' x,On h' (c'::R::l')→ZAt k.pa x c'→∃ D',On h' (D'::l')∧Zy k {S with asks:=x} D':=by
 obtain ⟨dB,dP,dK,cF,cQ,cA,cD,cO,cT,ks,cs,oc,wB,wP,wK,wF,wQ,wA,w⟩:=w
 obtain ⟨R,o1,_,hc⟩:=ZPh o oc (i:=6) rfl
 refine ⟨cA,R,o1,wA,fun h' c' l' x o' w'=>?_⟩
 obtain ⟨D',o2,o3⟩:=hc h' _ l' o'
 exact ⟨D',o2,dB,dP,dK,cF,cQ,c',cD,cO,cT,ks,cs,o3,wB,wP,wK,wF,wQ,w',w⟩
theorem Zy.dues (o:On h (D::l)) (w:Zy k S D):
 ∃ c R,On h (c::R::l)∧ZGW k.pd S.due c∧∀ h' c' l' x,On h' (c'::R::l')→ZGW k.pd x c'→∃ D',On h' (D'::l')∧Zy k {S with due:=x} D':=by
 obtain ⟨dB,dP,dK,cF,cQ,cA,cD,cO,cT,ks,cs,oc,wB,wP,wK,wF,wQ,wA,wD,w⟩:=w
 obtain ⟨R,o1,_,hc⟩:=ZPh o oc (i:=7) rfl
 refine ⟨cD,R,o1,wD,fun h' c' l' x o' w'=>?_⟩
 obtain ⟨D',o2,o3⟩:=hc h' _ l' o'
 exact ⟨D',o2,dB,dP,dK,cF,cQ,cA,c',cO,cT,ks,cs,o3,wB,wP,wK,wF,wQ,wA,w',w⟩
theorem Zy.poss (o:On h (D::l)) (w:Zy k S D):
 ∃ c R,On h (c::R::l)∧ZIs k.pp c∧∀ h' c' l',On h' (c'::R::l')→ZIs k.pp c'→∃ D',On h' (D'::l')∧Zy k S D':=by
 obtain ⟨dB,dP,dK,cF,cQ,cA,cD,cO,cT,ks,cs,oc,wB,wP,wK,wF,wQ,wA,wD,wO,w⟩:=w
 obtain ⟨R,o1,_,hc⟩:=ZPh o oc (i:=8) rfl
 refine ⟨cO,R,o1,wO,fun h' c' l' o' w'=>?_⟩
 obtain ⟨D',o2,o3⟩:=hc h' _ l' o'
 exact ⟨D',o2,dB,dP,dK,cF,cQ,cA,cD,c',cT,ks,cs,o3,wB,wP,wK,wF,wQ,wA,wD,w',w⟩
theorem Zy.blots (o:On h (D::l)) (w:Zy k S D):
 ∃ c R,On h (c::R::l)∧ZCY k.pt S.trades c∧∀ h' c' l' x,On h' (c'::R::l')→ZCY k.pt x c'→∃ D',On h' (D'::l')∧Zy k {S with trades:=x} D':=by
 obtain ⟨dB,dP,dK,cF,cQ,cA,cD,cO,cT,ks,cs,oc,wB,wP,wK,wF,wQ,wA,wD,wO,wT,w⟩:=w
 obtain ⟨R,o1,_,hc⟩:=ZPh o oc (i:=9) rfl
 refine ⟨cT,R,o1,wT,fun h' c' l' x o' w'=>?_⟩
 obtain ⟨D',o2,o3⟩:=hc h' _ l' o'
 exact ⟨D',o2,dB,dP,dK,cF,cQ,cA,cD,cO,c',ks,cs,o3,wB,wP,wK,wF,wQ,wA,wD,wO,w',w⟩
theorem Books.set {ps:List (Option Addr)} {bs:List (List ZE)} {cs:List Hp} (w:Books ps bs cs) {i:Nat} {p:Option Addr} {b:List ZE} {c:Hp} (hp:ps[i]?=some p) (hb:Zh p b c):Books ps (bs.set i b) (cs.set i c):=by
 obtain ⟨h1,h2,h3⟩:=w
 refine ⟨by simpa using h1,by simpa using h2,fun j p' b' c' e1 e2 e3=>?_⟩
 by_cases hij:i=j
 ·subst hij
  rw [hp] at e1
  cases e1
  have hlt:i<bs.length:=by rw [←h1]; exact (List.getElem?_eq_some_iff.1 hp).1
  rw [List.getElem?_set_self hlt] at e2
  rw [List.getElem?_set_self (by omega)] at e3
  cases e2; cases e3
  exact hb
 ·rw [List.getElem?_set_ne hij] at e2 e3
  exact h3 j p' b' c' e1 e2 e3
theorem Zy.book (o:On h (D::l)) (w:Zy k S D) {i:Nat} (hi:i<S.books.length):
 ∃ c R q,On h (c::R::l)∧Zh q S.books[i] c∧(∀ {K:Option Addr→Prop} {h'} {l'},On h' (D::l')→K q→ZC cSl ⟨k.b,5,none⟩ h' fun s=>Zi s.a s.len (i:Int) fun a=>ZC cP (a.add ((i:Int).toNat*1)) h' K)∧
  ∀ h' c' l' x,On h' (c'::R::l')→Zh q x c'→∃ D',On h' (D'::l')∧Zy k {S with books:=S.books.set i x} D':=by
 obtain ⟨dB,dP,dK,cF,cQ,cA,cD,cO,cT,ks,cs,oc,wB,wP,wK,wF,wQ,wA,wD,wO,wT,wb⟩:=w
 obtain ⟨hb1,hb2,hb3⟩:=wb
 have hc:cs[i]?=some cs[i]:=List.getElem?_eq_getElem (by omega)
 have hk:ks[i]?=some ks[i]:=List.getElem?_eq_getElem (by omega)
 have hx:S.books[i]?=some S.books[i]:=List.getElem?_eq_getElem hi
 obtain ⟨R,o1,_,hcl⟩:=ZPh o oc (i:=i+10) hc
 refine ⟨cs[i],R,ks[i],o1,hb3 i _ _ _ hk hx hc,fun {K h' l'} o' hK=>?_,fun h' c' l' x o' w'=>?_⟩
 ·have hD:D.sub h':=o'.mem (by simp)
  refine ZF (b:=k.b) (vs:=ZAF k S) (e:=121) (cd:=cSl) (x:=k.sk) (Hp.sub_trans (oc.mem (by simp)) hD) (i:=5) rfl ?_
  have:=wK.1
  refine ZM wK.row (Int.natCast_nonneg i) (by omega) fun a ha=>?_
  exact ZO wK.row (Hp.sub_trans (oc.mem (c:=dK) (by simp)) hD) rfl ha (i:=i) hk rfl hK
 ·obtain ⟨D',o2,o3⟩:=hcl h' _ l' o'
  exact ⟨D',o2,dB,dP,dK,cF,cQ,cA,cD,cO,cT,ks,cs.set i c',o3,wB,wP,wK,wF,wQ,wA,wD,wO,wT,Books.set ⟨hb1,hb2,hb3⟩ hk w'⟩
end
structure DC where
 d:DS
 id:Int
 outs:List Out
def ZGh (to kind:Int) (ns:List Int):Out:=⟨to,kind,ns.getD 0 0,ns.getD 1 0,ns.getD 2 0,ns.getD 3 0,ns.getD 4 0,ns.getD 5 0⟩
def ZBs (c:DC) (to kind:Int) (ns:List Int):DC:={c with outs:=c.outs++[ZGh to kind ns]}
def Zq (S:DS) (n:Int):List ZE:=(S.books[n.toNat]?).getD []
def ZTw:Bond:=⟨0,0,0,0,0,0,false⟩
def ZAO (S:DS) (n:Int):Bond:=(S.bonds[n.toNat]?).getD ZTw
def isBond (S:DS) (n:Int):Bool:=decide (0≤n∧n<S.books.length)
def ZBV (S:DS) (n:Int) (x:List ZE):DS:={S with books:=S.books.set n.toNat x}
def ZBI (S:DS) (s who other:Int) (t:ZAq):ZAq:={t with Buyer:=if s=2 then other else who,Seller:=if s=2 then who else other,Tick:=S.now}
def ZF3 (c:DC) (s who other:Int) (t:ZAq):DC:=
 {c with d:={c.d with trades:=c.d.trades++[ZLJ c.d.trades (ZBI c.d s who other t)]},outs:=c.outs++ZH5 (ZLJ c.d.trades (ZBI c.d s who other t))}
def ZOc (n:Int) (f:ZJl):ZAq:=⟨0,n,0,0,f.Price,f.Qty,0,0⟩
def ZCK (who n:Int) (o:ZE) (st:DC×Int) (f:ZJl):DC×Int:=
 (ZF3 (ZBs (ZBs st.1 f.MakerParty 20 [f.Maker,f.Price,f.Qty,f.Left]) who 20 [o.ID,f.Price,f.Qty,IntKind.i64.wrap (st.2-f.Qty)]) o.Side who f.MakerParty (ZOc n f),IntKind.i64.wrap (st.2-f.Qty))
def ZC3 (who:Int) (c:DC) (g:ZSs):DC:=ZBs c who 21 [g.ID,g.Left]
def ZGP (c:DC) (o:ZE):ZE:={o with Seq:=c.d.seq+1}
def ZJ4 (c:DC) (n:Int) (x:List ZE):DC:={c with d:={c.d with books:=c.d.books.set n.toNat x,seq:=c.d.seq+1}}
def ZAX (c:DC) (who n:Int) (o:ZE) (how:Int):DC×Int:=
 if (doV (Zq c.d n) (ZGP c o) how).2.2.2.2≠0 then ({c with d:=ZBV c.d n (doV (Zq c.d n) (ZGP c o) how).1},(doV (Zq c.d n) (ZGP c o) how).2.2.2.2)
 else
  (if how≠0∧how≠3∧0<(doV (Zq c.d n) (ZGP c o) how).2.2.2.1 then
     ZBs ((doV (Zq c.d n) (ZGP c o) how).2.1.foldl (ZCK who n o) ((doV (Zq c.d n) (ZGP c o) how).2.2.1.foldl (ZC3 who) (ZJ4 c n (doV (Zq c.d n) (ZGP c o) how).1),o.Left)).1 who 21 [o.ID,(doV (Zq c.d n) (ZGP c o) how).2.2.2.1]
  else ((doV (Zq c.d n) (ZGP c o) how).2.1.foldl (ZCK who n o) ((doV (Zq c.d n) (ZGP c o) how).2.2.1.foldl (ZC3 who) (ZJ4 c n (doV (Zq c.d n) (ZGP c o) how).1),o.Left)).1,0)
def ZOY (b:Bond) (how price qty:Int):Int:=if how≠4 then ZGy b price qty else if price≠0 then 1 else if b.Halted=true then 6 else ZSw b qty
def ZBQ (c:DC) (who:Int) (m:Msg):ZE:=⟨c.d.order+1,0,who,m.F_1,m.F_2,m.F_3⟩
def ZZU (c:DC):DC:={d:={c.d with order:=c.d.order+1},id:=c.d.order+1,outs:=c.outs}
def ZD8 (c:DC) (who:Int) (m:Msg):DC×Int:=
 if isBond c.d m.F_0=false then (c,4)
 else if ZBK m.F_1=false∨m.F_4<0∨4<m.F_4 then (c,1)
 else if ZOY (ZAO c.d m.F_0) m.F_4 m.F_2 m.F_3≠0 then (c,ZOY (ZAO c.d m.F_0) m.F_4 m.F_2 m.F_3)
 else if (ZAX c who m.F_0 (ZBQ c who m) m.F_4).2=0 then (ZZU (ZAX c who m.F_0 (ZBQ c who m) m.F_4).1,0)
 else ZAX c who m.F_0 (ZBQ c who m) m.F_4
def ZBR (S:DS) (id:Int):Option Nat:=S.books.findIdx? fun b=>(ZUw b id).isSome
def ZF2 (o:ZE) (price qty:Int):ZE:={o with Price:=price,Left:=qty}
def ZC0 (c:DC) (who n:Int) (o:ZE) (price qty:Int):DC×Int:=
 if ZGy (ZAO c.d n) price qty≠0 then (c,ZGy (ZAO c.d n) price qty)
 else if price=o.Price∧qty≤o.Left then ({c with d:=ZBV c.d n (ZDl (Zq c.d n) o.ID qty).1},(ZDl (Zq c.d n) o.ID qty).2)
 else ZAX {c with d:=ZBV c.d n (ZBu (Zq c.d n) o.ID)} who n (ZF2 o price qty) 0
def ZQ4 (c:DC) (who n:Int) (id left:Int):DC:=ZBs {c with d:=ZBV c.d n (ZBu (Zq c.d n) id)} who 21 [id,left]
def ZB9 (c:DC) (who:Int) (m:Msg):DC×Int:=
 if m.Kind=6 then ZD8 c who m
 else match ZBR c.d m.F_0 with
 | none=>(c,4)
 | some n=>
   if (ZRJ (Zq c.d n) m.F_0).1.Owner≠who then (c,5)
   else if m.Kind=8 then ZC0 {c with id:=m.F_0} who n (ZRJ (Zq c.d n) m.F_0).1 m.F_1 m.F_2
   else (ZQ4 {c with id:=m.F_0} who n m.F_0 (ZRJ (Zq c.d n) m.F_0).1.Left,0)
def ZI6 (n:Int):Bool:=decide (1≤n∧n≤1000)
def Z6 (c:DC) (who:Int) (m:Msg):Ask:=⟨c.d.ask+1,who,m.F_0,m.F_1,m.F_2,IntKind.u64.wrap m.F_3,IntKind.i64.wrap (c.d.now+m.F_4),0,1,0⟩
def ZBp (a:Ask) (c:DC) (i:Nat):DC:=if ZCR .u64 (ZBM .u64 a.Dealers i) 1=1 then ZBs c i 22 [a.ID,a.Bond,a.Side,a.Qty,a.Ends] else c
def ZPg (c:DC) (a:Ask):DC:={c with d:={c.d with asks:=(ZIj c.d.asks a).1,ask:=c.d.ask+1,due:=c.d.due+1},id:=c.d.ask+1}
def ZBz (c:DC) (who:Int) (m:Msg):DC×Int:=
 if isBond c.d m.F_0=false then (c,4)
 else if ZBK m.F_1=false then (c,1)
 else if (ZAO c.d m.F_0).Halted=true then (c,6)
 else if ZSw (ZAO c.d m.F_0) m.F_2≠0 then (c,ZSw (ZAO c.d m.F_0) m.F_2)
 else if ZIL c.d.parties who (IntKind.u64.wrap m.F_3)≠0 then (c,ZIL c.d.parties who (IntKind.u64.wrap m.F_3))
 else if ZI6 m.F_4=false then (c,1)
 else if (ZIj c.d.asks (Z6 c who m)).2≠0 then (c,(ZIj c.d.asks (Z6 c who m)).2)
 else ((List.range c.d.parties.length).foldl (ZBp (Z6 c who m)) (ZPg c (Z6 c who m)),0)
def ZFU (S:DS) (q:Za):Bool:=match getA S.asks q.Ask with
 | none=>false
 | some a=>a.State==2&&a.Hit==q.ID
def ZJX (c:DC) (who id:Int):DC×Int:=match getQ c.d.quotes id with
 | none=>(c,4)
 | some q=>if q.Dealer≠who then (c,5) else if ZFU c.d q=true then (c,11) else ({c with d:={c.d with quotes:=(ZH8 c.d.quotes id who).1},id:=id},(ZH8 c.d.quotes id who).2)
def Z2 (c:DC) (who:Int) (a:Ask) (m:Msg):Za:=⟨c.d.quote+1,a.ID,who,m.F_1,IntKind.i64.wrap (c.d.now+m.F_2),true⟩
def ZP2 (c:DC) (q:Za):DC:={c with d:={c.d with quotes:=(ZIp c.d.quotes q).1,quote:=c.d.quote+1,due:=c.d.due+1},id:=c.d.quote+1}
def ZCv (c:DC) (who:Int) (m:Msg):DC×Int:=
 if m.Kind=11 then ZJX c who m.F_0
 else match getA c.d.asks m.F_0 with
 | none=>(c,4)
 | some a=>
   if ZCR .u64 (ZBM .u64 a.Dealers who) 1=0 then (c,5)
   else if a.State≠1 then (c,11)
   else if (ZAO c.d a.Bond).Halted=true then (c,6)
   else if ZDk (ZAO c.d a.Bond) m.F_1≠0 then (c,ZDk (ZAO c.d a.Bond) m.F_1)
   else if ZI6 m.F_2=false then (c,1)
   else if (ZIp c.d.quotes (Z2 c who a m)).2≠0 then (c,(ZIp c.d.quotes (Z2 c who a m)).2)
   else (ZBs (ZP2 c (Z2 c who a m)) a.Client 23 [a.ID,(Z2 c who a m).ID,m.F_1,(Z2 c who a m).Expires],0)
def ZBm (S:DS) (who id:Int):Ask×Int:=match getA S.asks id with
 | none=>(ZO8,4)
 | some a=>if a.Client≠who then (a,5) else if a.State≠1 then (a,11) else (a,0)
def ZCp (S:DS) (a:Ask) (q:Za):Int:=if (ZAO S a.Bond).Halted=true then 6 else ZSE (Zq S a.Bond) a.Side q.Price a.Qty
def ZD9 (S:DS):Int:=IntKind.i64.wrap (S.now+S.look)
def ZPf (c:DC) (a:Ask) (q:Za):DC×Int:=
 if q.Live=false∨q.Expires≤c.d.now then (c,12)
 else if ZCp c.d a q≠0 then (c,ZCp c.d a q)
 else if (ZEW c.d.parties c.d.used q.Dealer q.Price a.Qty).2≠0 then (c,(ZEW c.d.parties c.d.used q.Dealer q.Price a.Qty).2)
 else if (ZDc c.d.asks a.ID q.ID (ZD9 c.d)).2≠0 then (c,(ZDc c.d.asks a.ID q.ID (ZD9 c.d)).2)
 else (ZBs {c with d:={c.d with asks:=(ZDc c.d.asks a.ID q.ID (ZD9 c.d)).1,due:=c.d.due+1},id:=a.ID} q.Dealer 24 [a.ID,q.ID,ZD9 c.d],0)
def ZH7 (c:DC) (who:Int) (m:Msg):DC×Int:=
 if m.Kind=12 then match getQ c.d.quotes m.F_0 with
  | none=>(c,4)
  | some q=>if (ZBm c.d who q.Ask).2≠0 then (c,(ZBm c.d who q.Ask).2) else ZPf c (ZBm c.d who q.Ask).1 q
 else if (ZBm c.d who m.F_0).2≠0 then (c,(ZBm c.d who m.F_0).2)
 else if (ZJx (ZBm c.d who m.F_0).1.Side (c.d.quotes.filter (ZPO (ZBm c.d who m.F_0).1.ID c.d.now))).2=false then (c,12)
 else ZPf c (ZBm c.d who m.F_0).1 (ZJx (ZBm c.d who m.F_0).1.Side (c.d.quotes.filter (ZPO (ZBm c.d who m.F_0).1.ID c.d.now))).1
def ZUk (c:DC) (id st:Int):DC:={c with d:={c.d with asks:=(ZP6 c.d.asks id st).1,quotes:=ZIP c.d.quotes id}}
def ZJZ (c:DC) (a:Ask):DC:=ZBs (ZUk c a.ID 4) a.Client 27 [a.ID]
def ZFk (c:DC) (id:Int):DC:={c with d:={c.d with quotes:=killQ c.d.quotes id}}
def ZAT (c:DC) (a:Ask):DC:=
 if a.Ends≤c.d.now then ZJZ (ZFk c a.Hit) a
 else ZBs {ZFk c a.Hit with d:={(ZFk c a.Hit).d with asks:=(ZGX c.d.asks a.ID).1}} a.Client 25 [a.ID,a.Hit]
def ZCm (S:DS) (a:Ask):Za:=(ZLA ZMI (getQ S.quotes a.Hit)).1
def ZZT (c:DC) (a:Ask) (q:Za):DC:=
 ZF3 (ZBs (ZUk {c with d:={c.d with used:=(ZK2 c.d.parties c.d.used q.Dealer q.Price a.Qty).1}} a.ID 3) a.Client 26 [a.ID,q.Price]) a.Side a.Client q.Dealer ⟨0,a.Bond,0,0,q.Price,a.Qty,a.ID,0⟩
def ZEc (c:DC) (who:Int) (m:Msg):DC×Int:=match getA c.d.asks m.F_0 with
 | none=>(c,4)
 | some a=>
   if a.State≠2 then (c,11)
   else if (ZCm c.d a).Dealer≠who then (c,5)
   else if m.Kind=15 then (ZAT {c with id:=a.ID} a,0)
   else if ZCp c.d a (ZCm c.d a)≠0 then ({c with id:=a.ID},ZCp c.d a (ZCm c.d a))
   else if (ZK2 c.d.parties c.d.used (ZCm c.d a).Dealer (ZCm c.d a).Price a.Qty).2≠0 then ({c with id:=a.ID},(ZK2 c.d.parties c.d.used (ZCm c.d a).Dealer (ZCm c.d a).Price a.Qty).2)
   else (ZZT {c with id:=a.ID} a (ZCm c.d a),0)
def ZHx (c:DC) (who id:Int):DC×Int:=if (ZBm c.d who id).2=0 then (ZJZ {c with id:=id} (ZBm c.d who id).1,0) else (c,(ZBm c.d who id).2)
def ZWV (is:Int) (b:Bond):Bond:={b with Halted:=is==1}
def ZHG (c:DC) (n is:Int):DC×Int:=
 if isBond c.d n=false then (c,4)
 else if is≠0∧is≠1 then (c,1)
 else ({c with d:={c.d with bonds:=c.d.bonds.set n.toNat (ZWV is (ZAO c.d n))},id:=n},0)
def ZSz (S:DS) (who:Int) (m:Msg):Bool:=decide (6≤m.Kind∧m.Kind≤17)&&(isV m&&ZSB (ZEV S.parties who) m.Kind)
def ZCJ (c:DC) (who:Int) (m:Msg):DC×Int:=
 if ZSz c.d who m=false then (c,5)
 else if m.Kind=6∨m.Kind=7∨m.Kind=8 then ZB9 c who m
 else if m.Kind=10∨m.Kind=11 then ZCv c who m
 else if m.Kind=12∨m.Kind=13 then ZH7 c who m
 else if m.Kind=14∨m.Kind=15 then ZEc c who m
 else if m.Kind=16 then ZHx c who m.F_0
 else if m.Kind=9 then ZBz c who m
 else ZHG c m.F_0 m.F_1
def ZHA (S:DS):DC:=⟨S,0,[]⟩
def doD (S:DS) (who seq:Int) (m:Msg):DS×List Out:=
 if (ZCJ (ZHA S) who m).2≠0 then ((ZCJ (ZHA S) who m).1.d,[ZGh who 19 [seq,(ZCJ (ZHA S) who m).2]])
 else ((ZCJ (ZHA S) who m).1.d,ZGh who 18 [seq,(ZCJ (ZHA S) who m).1.id]::(ZCJ (ZHA S) who m).1.outs)
def Zt (k:DK) (S:DS) (h:Hp) (l:List Hp):Prop:=∃ D,On h (D::l)∧Zy k S D
def ZEZ (b:Nat) (who id:Int) (outs:List Out) (C:Hp):Prop:=∃ (s:Sl) (d:Hp),On C [ob b [Value.int .i64 who,Value.int .i64 id,sv s] 191,d]∧Own ZCL d s outs
def Has (k:DK) (b:Nat) (who:Int) (c:DC) (h:Hp) (l:List Hp):Prop:=∃ C,ZEZ b who c.id c.outs C∧Zt k c.d h (C::l)
section
variable {k:DK} {S:DS} {b:Nat} {who:Int} {c:DC} {h:Hp} {l:List Hp}
theorem Zt.ob (a:Zt k S h l):(Go.Eng.ob k.b (ZAF k S) 121).sub h:=by
 obtain ⟨D,o,w⟩:=a
 exact w.ob (o.mem (by simp))
theorem Zt.sub (a:Zt k S h l) {g:Hp} (hg:g∈l):g.sub h:=by
 obtain ⟨D,o,w⟩:=a
 exact o.mem (by simp [hg])
theorem Zt.new (a:Zt k S h l) {vs:List Value} {e:TypeId} {K:Nat→Hp→Prop} (h2:∀ b h',Zt k S h' (Go.Eng.ob b vs e::l)→K b h'):ZL (.cells vs.toArray e (0,0)) h K:=by
 obtain ⟨D,o,w⟩:=a
 exact ZI o fun b h' o'=>h2 b h' ⟨D,o'.swap,w⟩
theorem Zt.drop {g:Hp} (a:Zt k S h (g::l)):Zt k S h l:=by
 obtain ⟨D,o,w⟩:=a
 exact ⟨D,o.sublist (List.Sublist.cons_cons _ (List.sublist_cons_self _ _)),w⟩
theorem Zt.perm {l':List Hp} (a:Zt k S h l) (p:l.Perm l'):Zt k S h l':=by
 obtain ⟨D,o,w⟩:=a
 exact ⟨D,o.perm (p.cons _),w⟩
theorem Has.ob (a:Has k b who c h l):(Go.Eng.ob k.b (ZAF k c.d) 121).sub h:=by
 obtain ⟨C,_,a⟩:=a
 exact a.ob
theorem Has.call (a:Has k b who c h l):∃ s,(Go.Eng.ob b [Value.int .i64 who,Value.int .i64 c.id,sv s] 191).sub h:=by
 obtain ⟨C,⟨s,d,o,_⟩,a⟩:=a
 exact ⟨s,Hp.sub_trans (o.mem (by simp)) (a.sub (by simp))⟩
theorem Has.ldWho (a:Has k b who c h l) {K:Int→Prop} (hK:K who):ZC (cI .i64) ⟨b,0,none⟩ h K:=by
 obtain ⟨s,hs⟩:=a.call
 exact ZF (cd:=cI .i64) (x:=who) hs (i:=0) rfl hK
theorem Has.new (a:Has k b who c h l) {vs:List Value} {e:TypeId} {K:Nat→Hp→Prop} (h2:∀ n h',Has k b who c h' (Go.Eng.ob n vs e::l)→K n h'):ZL (.cells vs.toArray e (0,0)) h K:=by
 obtain ⟨C,wc,a⟩:=a
 exact a.new fun n h' a'=>h2 n h' ⟨C,wc,a'.perm (List.Perm.swap _ _ _)⟩
theorem Has.drop {g:Hp} (a:Has k b who c h (g::l)):Has k b who c h l:=by
 obtain ⟨C,wc,a⟩:=a
 exact ⟨C,wc,(a.perm (List.Perm.swap _ _ _)).drop⟩
theorem Has.sub (a:Has k b who c h l) {g:Hp} (hg:g∈l):g.sub h:=by
 obtain ⟨C,wc,a⟩:=a
 exact a.sub (by simp [hg])
theorem Has.setId (a:Has k b who c h l) {id:Int} {K:Hp→Prop} (hK:∀ h',Has k b who {c with id:=id} h' l→K h'):ZU (cI .i64) ⟨b,1,none⟩ id h K:=by
 obtain ⟨C,⟨s,d,oc,wd⟩,D,o,w⟩:=a
 have o1:On h (Go.Eng.ob b [Value.int .i64 who,Value.int .i64 c.id,sv s] 191::d::D::l):=o.swap.split oc
 refine ZZ (cd:=cI .i64) (i:=1) (x:=id) (vs':=[Value.int .i64 who,Value.int .i64 id,sv s]) o1 rfl rfl (by show 1+1≤3; omega) fun h2 o2=>?_
 obtain ⟨o3,o4⟩:=On.joined (cs:=[Go.Eng.ob b [Value.int .i64 who,Value.int .i64 id,sv s] 191,d]) (l:=D::l) o2
 exact hK h2 ⟨_,⟨s,d,o4,wd⟩,D,o3.swap,w⟩
theorem ZNE {to kind:Int} {ns:List Int} {s:Sl} {g:Hp} (o:On h l) (r:Row (cI .i64) g s ns) (hg:g∈l) (hn:ns.length≤6) {Q:Out→Hp→Prop} (hq:∀ h',On h' l→Q (ZGh to kind ns) h'):
 ZA TP 79 [Value.int .i64 to,Value.int .i64 kind,Value.slice s.a s.len s.cap] ZCL h Q:=by
 refine c79 ?_
 unfold F79
 have hlen:=r.1
 refine ZI o fun k1 h1 o1=>?_
 refine ZZ (cd:=ZCL) (i:=0) (x:=⟨to,kind,0,0,0,0,0,0⟩) (vs':=[Value.int .i64 to,Value.int .i64 kind,Value.int .i64 0,Value.int .i64 0,Value.int .i64 0,Value.int .i64 0,Value.int .i64 0,Value.int .i64 0]) o1 rfl rfl (Nat.le_refl 8) fun h2 o2=>?_
 show ZA6 (cI .i64) (Zj (some ⟨k1,2,none⟩) 0 6 1) 6 s.a s.len h2 (fun n1 h3=>ZC ZCL ⟨k1,0,none⟩ h3 fun x1=>Q x1 h3)
 rw [ZIB]
 have w2:Own (cI .i64) (Go.Eng.ob k1 [Value.int .i64 to,Value.int .i64 kind,Value.int .i64 0,Value.int .i64 0,Value.int .i64 0,Value.int .i64 0,Value.int .i64 0,Value.int .i64 0] 78) ⟨some ⟨k1,0,none⟩,8,8⟩ [to,kind,0,0,0,0,0,0]:=
  ZBG (rest:=[]) rfl rfl (by simp)
 have hmin:min s.len 6=ns.length:=by omega
 refine ZNO (g:=g) (k:=2) (cap0:=s.cap) (ys:=ns) o2 rfl w2 (a:=⟨k1,0,none⟩) rfl (by rw [hmin,←hlen]; exact r) (o2.mem (by simp [hg])) (by simp only [List.length_cons,List.length_nil]; omega) fun c3 h3 o3 w3=>?_
 have hr:=w3.row.2
 refine ⟨ZGh to kind ns,Hp.sub_rds (o3.mem (c:=c3) (by simp)) ?_,hq h3 o3.tail⟩
 have e:ZG (cI .i64) (List.take 2 [to,kind,0,0,0,0,0,0]++(ns++List.drop (2+ns.length) [to,kind,0,0,0,0,0,0]))=(ZCL.enc (ZGh to kind ns)).cells.toList:=by
  match ns,hn with
  | [],_=>rfl
  | [a],_=>rfl
  | [a,b],_=>rfl
  | [a,b,c],_=>rfl
  | [a,b,c,d],_=>rfl
  | [a,b,c,d,e],_=>rfl
  | [a,b,c,d,e,f],_=>rfl
  | _::_::_::_::_::_::_::_,h=>simp at h
 rw [←e]
 exact hr
theorem ZTQ {to kind:Int} {ns:List Int} {s:Sl} {g:Hp} (a:Has k b who c h l) (r:Row (cI .i64) g s ns) (hg:g∈l) (hn:ns.length≤6) (hl:c.outs.length≤1000000) {Q:PUnit→Hp→Prop} (hq:∀ h',Has k b who (ZBs c to kind ns) h' l→Q ⟨⟩ h'):
 ZA TP 86 [Value.pointer (some ⟨b,0,none⟩),Value.int .i64 to,Value.int .i64 kind,Value.slice s.a s.len s.cap] (ZW []) h Q:=by
 obtain ⟨C,⟨s1,d,oc,wd⟩,D,o,w⟩:=a
 refine c86 ?_
 unfold F86
 have o1:On h (Go.Eng.ob b [Value.int .i64 who,Value.int .i64 c.id,sv s1] 191::d::D::l):=o.swap.split oc
 dsimp only [ZR]
 refine ZJ (x:=s1) o1 0 (i:=2) rfl rfl ?_
 refine ZNE (g:=g) o1 r (by simp [hg]) hn fun h2 o2=>?_
 refine ⟨⟨Hp.sub_rds (o2.get (i:=0) rfl) (ZCC (i:=2) rfl),trivial⟩,?_⟩
 refine ZI o2 fun k3 h3 o3=>?_
 refine ZV (cd:=ZCL) (g:=Go.Eng.ob k3 (ZCL.enc (ZGh to kind ns)).cells.toList 78) (s:=s1) (t:=⟨some ⟨k3,0,none⟩,1,1⟩) (ys:=[ZGh to kind ns]) (o3.rot3) rfl wd (by decide) (Zf (by rfl) rfl) (o3.get (i:=0) rfl) ?_ fun d4 p n m h4 o4 w4=>?_
 ·rw [List.length_singleton]
  exact Nat.le_trans (Nat.mul_le_mul_right _ (show _≤1000001 by omega)) (by decide)
 ·refine ZZ (cd:=cSl) (i:=2) (x:=⟨p,n,m⟩) (vs':=[Value.int .i64 who,Value.int .i64 c.id,sv ⟨p,n,m⟩]) (o4.rot3) rfl rfl (by show 2+1≤3; omega) fun h5 o5=>?_
  have o6:On h5 (Go.Eng.ob b [Value.int .i64 who,Value.int .i64 c.id,sv ⟨p,n,m⟩] 191::d4::D::l):=o5.pick [0,1,3] 4 (by decide) (by decide)
  obtain ⟨o7,o8⟩:=On.joined (cs:=[Go.Eng.ob b [Value.int .i64 who,Value.int .i64 c.id,sv ⟨p,n,m⟩] 191,d4]) (l:=D::l) o6
  exact hq h5 ⟨_,⟨_,d4,o8,w4⟩,D,o7.swap,w⟩
end
section
variable {k:DK} {S:DS} {b:Nat} {who:Int} {c:DC} {h:Hp} {l:List Hp}
theorem Zt.bonds (a:Zt k S h l):∃ c R,On h (c::R::l)∧Own Z8 c k.sb S.bonds∧∀ h' c' l' x,On h' (c'::R::l')→Own Z8 c' k.sb x→Zt k {S with bonds:=x} h' l':=by
 obtain ⟨D,o,w⟩:=a
 exact w.bonds o
theorem Zt.firm (a:Zt k S h l):∃ c R,On h (c::R::l)∧ZCi k.pf S.parties S.used c∧∀ h' c' l' x,On h' (c'::R::l')→ZCi k.pf S.parties x c'→Zt k {S with used:=x} h' l':=by
 obtain ⟨D,o,w⟩:=a
 exact w.firm o
theorem Zt.quotes (a:Zt k S h l):∃ c R,On h (c::R::l)∧Zu k.pq S.quotes c∧∀ h' c' l' x,On h' (c'::R::l')→Zu k.pq x c'→Zt k {S with quotes:=x} h' l':=by
 obtain ⟨D,o,w⟩:=a
 exact w.quotes o
theorem Zt.asks (a:Zt k S h l):∃ c R,On h (c::R::l)∧ZAt k.pa S.asks c∧∀ h' c' l' x,On h' (c'::R::l')→ZAt k.pa x c'→Zt k {S with asks:=x} h' l':=by
 obtain ⟨D,o,w⟩:=a
 exact w.asks o
theorem Zt.dues (a:Zt k S h l):∃ c R,On h (c::R::l)∧ZGW k.pd S.due c∧∀ h' c' l' x,On h' (c'::R::l')→ZGW k.pd x c'→Zt k {S with due:=x} h' l':=by
 obtain ⟨D,o,w⟩:=a
 exact w.dues o
theorem Zt.blots (a:Zt k S h l):∃ c R,On h (c::R::l)∧ZCY k.pt S.trades c∧∀ h' c' l' x,On h' (c'::R::l')→ZCY k.pt x c'→Zt k {S with trades:=x} h' l':=by
 obtain ⟨D,o,w⟩:=a
 exact w.blots o
theorem Zt.poss (a:Zt k S h l):∃ c R,On h (c::R::l)∧ZIs k.pp c∧∀ h' c' l',On h' (c'::R::l')→ZIs k.pp c'→Zt k S h' l':=by
 obtain ⟨D,o,w⟩:=a
 exact w.poss o
theorem Zt.nums (a:Zt k S h l):∃ R,On h (Go.Eng.ob k.b (ZAF k S) 121::R::l)∧∀ h' l' now order seq quote ask,On h' (Go.Eng.ob k.b (ZAF k {S with now:=now,order:=order,seq:=seq,quote:=quote,ask:=ask}) 121::R::l')→
 Zt k {S with now:=now,order:=order,seq:=seq,quote:=quote,ask:=ask} h' l':=by
 obtain ⟨D,o,w⟩:=a
 exact w.nums o
theorem Zt.book (a:Zt k S h l) {i:Nat} (hi:i<S.books.length):∃ c R q,On h (c::R::l)∧Zh q S.books[i] c∧(∀ {K:Option Addr→Prop},K q→ZC cSl ⟨k.b,5,none⟩ h fun s=>Zi s.a s.len (i:Int) fun a=>ZC cP (a.add ((i:Int).toNat*1)) h K)∧
 ∀ h' c' l' x,On h' (c'::R::l')→Zh q x c'→Zt k {S with books:=S.books.set i x} h' l':=by
 obtain ⟨D,o,w⟩:=a
 obtain ⟨c,R,q,o1,w1,hl,hc⟩:=w.book o hi
 exact ⟨c,R,q,o1,w1,fun hK=>hl o hK,hc⟩
theorem Zt.dsub (a:Zt k S h l):∃ D,D.sub h∧Zy k S D:=by
 obtain ⟨D,o,w⟩:=a
 exact ⟨D,o.mem (by simp),w⟩
theorem ZKa {s w0 other:Int} {t:ZAq} (a:Has k b who c h l) (ht:ZCc (ZBI c.d s w0 other t)) (hl:c.d.trades.length≤1000000) (ho:c.outs.length≤1000000) {Q:PUnit→Hp→Prop} (hq:∀ h',Has k b who (ZF3 c s w0 other t) h' l→Q ⟨⟩ h'):
 ZA TP 217 [Value.pointer k.p,Value.pointer (some ⟨b,0,none⟩),Value.int .i64 s,Value.int .i64 w0,Value.int .i64 other,Zz.enc t] (ZW []) h Q:=by
 refine c217 ?_
 unfold F217
 refine ZF (cd:=cI .i64) (x:=c.d.now) a.ob (i:=4) rfl ?_
 refine ZN (fun x h'=>h'=h∧x=ZBI c.d s w0 other t) ?_ fun J hJ=>?_
 ·rintro x h' ⟨rfl,rfl⟩
  refine ZF (cd:=cP) (x:=k.pp) a.ob (i:=10) rfl ?_
  obtain ⟨C,⟨s1,d,oc,wd⟩,a⟩:=a
  obtain ⟨cp,R,o1,w1,cl⟩:=a.poss
  refine ZQ1 (t:=ZBI c.d s w0 other t) o1 w1 fun r c2 h2 o2 w2=>?_
  have a2:=cl _ _ _ o2 w2
  have hC2:=a2.sub (g:=C) (by simp)
  dsimp only [ZR]
  refine ZF (b:=b) (vs:=[Value.int .i64 who,Value.int .i64 c.id,sv s1]) (e:=191) (cd:=cSl) (x:=s1) (Hp.sub_trans (oc.mem (by simp)) hC2) (i:=2) rfl ?_
  refine ZF (cd:=cP) (x:=k.pt) a2.ob (i:=11) rfl ?_
  obtain ⟨cb,R3,o3,w3,cl3⟩:=a2.blots
  refine ZXH (t:=ZBI c.d s w0 other t) o3 w3 hl ht fun c4 h4 o4 w4=>?_
  have a4:=cl3 _ _ _ _ o4 w4
  have hC4:=a4.sub (g:=C) (by simp)
  refine ⟨⟨Hp.sub_rds (Hp.sub_trans (oc.mem (c:=Go.Eng.ob b [Value.int .i64 who,Value.int .i64 c.id,sv s1] 191) (by simp)) hC4) (ZCC (i:=2) rfl),trivial⟩,?_⟩
  obtain ⟨D4,o4,w4⟩:=a4
  refine ZWx (t:=ZLJ c.d.trades (ZBI c.d s w0 other t)) o4 fun s5 d5 h5 o5 w5=>?_
  have o6:On h5 (Go.Eng.ob b [Value.int .i64 who,Value.int .i64 c.id,sv s1] 191::d::d5::D4::l):=(o5.rot3).split oc
  refine ⟨⟨Hp.sub_rds (o6.get (i:=0) rfl) (ZCC (i:=2) rfl),trivial⟩,?_⟩
  refine ZV (cd:=ZCL) (g:=d5) (s:=s1) (t:=s5) (ys:=ZH5 (ZLJ c.d.trades (ZBI c.d s w0 other t))) o6.swap rfl wd (by decide) w5.row (o6.mem (by simp)) ?_ fun d7 p n m h7 o7 w7=>?_
  ·refine Nat.le_trans (Nat.mul_le_mul_right _ (show _≤1000002 from ?_)) (by decide)
   show c.outs.length+2≤1000002
   omega
  ·refine ZZ (cd:=cSl) (i:=2) (x:=⟨p,n,m⟩) (vs':=[Value.int .i64 who,Value.int .i64 c.id,sv ⟨p,n,m⟩]) o7.swap rfl rfl (by show 2+1≤3; omega) fun h8 o8=>?_
   have o9:On h8 (Go.Eng.ob b [Value.int .i64 who,Value.int .i64 c.id,sv ⟨p,n,m⟩] 191::d7::D4::l):=o8.pick [0,1,3] 4 (by decide) (by decide)
   obtain ⟨o10,o11⟩:=On.joined (cs:=[Go.Eng.ob b [Value.int .i64 who,Value.int .i64 c.id,sv ⟨p,n,m⟩] 191,d7]) (l:=D4::l) o9
   exact hq h8 ⟨_,⟨_,d7,o11,w7⟩,D4,o10.swap,w4⟩
 ·unfold ZBI at hJ
  refine ZD (fun e=>hJ _ _ ⟨rfl,?_⟩) fun e=>hJ _ _ ⟨rfl,?_⟩
  ·have e:s=2:=by simpa using e
   rw [if_pos e,if_pos e]
  ·have e:¬s=2:=by simpa using e
   rw [if_neg e,if_neg e]
theorem ZKb {n:Int} (a:Zt k S h l) {Q:Bool→Hp→Prop} (hq:Q (isBond S n) h):ZA TP 56 [Value.pointer k.p,Value.int .i64 n] cB h Q:=by
 refine c56 ?_
 unfold F56
 obtain ⟨D,o,w⟩:=a
 have hob:=w.ob (o.mem (by simp))
 obtain ⟨dB,dP,dK,cF,cQ,cA,cD,cO,cT,ks,cs,oc,wB,wP,wK,wF,wQ,wA,wD,wO,wT,wb⟩:=w
 have e:k.sk.len=S.books.length:=by rw [←wb.1]; exact wK.1
 unfold isBond at hq
 refine ZH (fun h0=>?_) fun h0=>?_
 ·dsimp only [ZR,DK.p]
  refine ZF (cd:=cSl) (x:=k.sk) hob (i:=5) rfl ?_
  rw [e]
  rwa [show decide (0≤n∧n<(S.books.length:Int))=decide (n<(S.books.length:Int)) from decide_eq_decide.2 (by omega)] at hq
 ·rwa [decide_eq_false (by omega)] at hq
theorem ZV7 {x:Bond} {how price qty:Int} (ht:x.Tick≠0) (hl:x.Lot≠0) {Q:Int→Hp→Prop} (hq:Q (ZOY x how price qty) h):ZA TP 277 [Z8.enc x,Value.int .i64 how,Value.int .i64 price,Value.int .i64 qty] (cI .i64) h Q:=by
 refine c277 ?_
 unfold F277
 unfold ZOY at hq
 refine ZD (fun e=>?_) fun e=>?_
 ·rw [if_pos (by simpa using e)] at hq
  exact ZN2 ht hl hq
 ·rw [if_neg (by simpa using e)] at hq
  refine ZD (fun e=>?_) fun e=>?_
  ·rwa [if_pos (by simpa using e)] at hq
  ·rw [if_neg (by simpa using e)] at hq
   refine ZD (fun e=>?_) fun e=>?_
   ·rwa [if_pos e] at hq
   ·rw [if_neg (by rw [e]; simp)] at hq
    exact ZSp hl hq
end
def ZAd (m:Int) (l:List ZE):Prop:=ZC9 l∧ZH1 l∧l.length≤64∧∀ x∈l,x.Seq≤m∧0≤x.Owner∧x.Owner<8
def ZKE (f:ZJl):Prop:=1≤f.Price∧f.Price≤1000000∧0≤f.Qty∧f.Qty≤1000000∧0≤f.MakerParty∧f.MakerParty<8
theorem ZAd.mono {m m':Int} {l:List ZE} (h:ZAd m l) (hm:m≤m'):ZAd m' l:=⟨h.1,h.2.1,h.2.2.1,fun x hx=>by have:=h.2.2.2 x hx; omega⟩
theorem ZAd.sub {m:Int} {l l':List ZE} (h:ZAd m l) (hs:l'.Sublist l):ZAd m l':=
 ⟨h.1.sublist (hs.map _),fun x hx=>h.2.1 x (hs.subset hx),Nat.le_trans hs.length_le h.2.2.1,fun x hx=>h.2.2.2 x (hs.subset hx)⟩
theorem ZAj (l:List ZE) (id:Int):(ZBu l id).Sublist l:=List.eraseP_sublist
theorem ZEz (l:List ZE) (id left:Int):(ZDl l id left).1=l∨∃ i o,l[i]?=some o∧o.ID=id∧1≤left∧left≤o.Left∧(ZDl l id left).1=l.set i (ZBT o left):=by
 unfold ZDl
 cases hf:l.findIdx? fun o=>o.ID==id with
 | none=>exact .inl rfl
 | some i=>
   obtain ⟨o,ho,_,he,_⟩:=ZAx hf
   dsimp only
   rw [ho]
   dsimp only
   split
   ·exact .inl rfl
   ·exact .inr ⟨i,o,ho,by simpa using he,by omega,by omega,rfl⟩
theorem ZAd.less {m:Int} {l:List ZE} (h:ZAd m l) (id left:Int):ZAd m (ZDl l id left).1:=by
 rcases ZEz l id left with e|⟨i,o,ho,_,h1,h2,e⟩
 ·rw [e]; exact h
 ·rw [e]
  have hm:=List.mem_of_getElem? ho
  have hlt:=(List.getElem?_eq_some_iff.1 ho).1
  have e2:(l.set i (ZBT o left)).map (fun x=>x.Seq)=l.map fun x=>x.Seq:=by
   rw [List.map_set]
   have:(ZBT o left).Seq=(l.map fun x=>x.Seq)[i]'(by simpa using hlt):=by
    rw [List.getElem_map,(List.getElem?_eq_some_iff.1 ho).2]; rfl
   rw [this,List.set_getElem_self]
  refine ⟨by unfold ZC9; rw [e2]; exact h.1,fun x hx=>?_,by rw [List.length_set]; exact h.2.2.1,fun x hx=>?_⟩
  ·rcases List.mem_or_eq_of_mem_set hx with hx|hx
   ·exact h.2.1 x hx
   ·have:=h.2.1 o hm
    subst hx
    exact ⟨h1,by show left≤_; omega,this.2.2⟩
  ·rcases List.mem_or_eq_of_mem_set hx with hx|hx
   ·exact h.2.2.2 x hx
   ·subst hx
    exact h.2.2.2 o hm
theorem ZAd.add {m:Int} {l:List ZE} {o:ZE} (h:ZAd m l) (h1:o.Seq≤m) (h2:0≤o.Owner∧o.Owner<8):ZAd m (ZN9 l o).1:=by
 unfold ZN9
 split
 ·exact h
 ·rename_i hn
  split
  ·exact h
  ·rename_i hl
   have hb:Zs o=true:=by
    cases e:Zs o with
    | true=>rfl
    | false=>exact absurd (.inl e) hn
   have ha:l.any (fun x=>x.ID==o.ID||x.Seq==o.Seq)=false:=by
    cases e:l.any fun x=>x.ID==o.ID||x.Seq==o.Seq with
    | false=>rfl
    | true=>exact absurd (.inr e) hn
   have ha:=List.any_eq_false.1 ha
   unfold Zs at hb
   simp only [Bool.and_eq_true,decide_eq_true_eq] at hb
   refine ⟨?_,fun x hx=>?_,by simp; omega,fun x hx=>?_⟩
   ·unfold ZC9
    rw [List.map_append,List.nodup_append]
    refine ⟨h.1,by simp,fun a ha1 b hb1=>?_⟩
    simp only [List.map_cons,List.map_nil,List.mem_singleton] at hb1
    subst hb1
    obtain ⟨x,hx,rfl⟩:=List.mem_map.1 ha1
    have:=ha x hx
    simp only [Bool.or_eq_true,beq_iff_eq,not_or] at this
    exact this.2
   ·rcases List.mem_append.1 hx with hx|hx
    ·exact h.2.1 x hx
    ·simp only [List.mem_singleton] at hx
     subst hx
     exact ⟨hb.2.2.2.2.1,hb.2.2.2.2.2.1,hb.2.2.1,hb.2.2.2.1⟩
   ·rcases List.mem_append.1 hx with hx|hx
    ·exact h.2.2.2 x hx
    ·simp only [List.mem_singleton] at hx
     subst hx
     exact ⟨h1,h2⟩
def ZFq (m:Int) (o:ZE) (n:Nat) (c:ZCx):Prop:=
 ZAd m c.l∧(∀ f∈c.fills,ZKE f)∧c.fills.length≤n∧c.gone.length≤n∧0≤c.o.Left∧c.o.Left≤1000000∧c.o.Seq=o.Seq∧c.o.Owner=o.Owner∧c.o.ID=o.ID∧c.o.Side=o.Side∧c.o.Price=o.Price
theorem ZFq.meet {m:Int} {o x:ZE} {n:Nat} {c:ZCx} (h:ZFq m o n c) (hx:1≤x.Left∧x.Left≤1000000∧1≤x.Price∧x.Price≤1000000) (hw:0≤x.Owner∧x.Owner<8):ZFq m o (n+1) (Zp c x):=by
 obtain ⟨h1,h2,h3,h4,h5,h6,h7⟩:=h
 have hsame:=ZFr c x
 have hleft:=ZFy (c:=c) (x:=x) ⟨h5,h6⟩ (by omega)
 have hlen:=ZJ7 c x
 refine ⟨?_,?_,by omega,by omega,hleft.1,hleft.2,by rw [hsame.2.1,h7.1],by rw [hsame.2.2.1,h7.2.1],by rw [hsame.1,h7.2.2.1],by rw [hsame.2.2.2.1,h7.2.2.2.1],by rw [hsame.2.2.2.2,h7.2.2.2.2]⟩
 ·unfold Zp
  split
  ·exact h1
  ·split
   ·exact h1.sub (ZAj _ _)
   ·dsimp only
    split
    ·exact h1.sub (ZAj _ _)
    ·exact h1.less _ _
 ·unfold Zp
  split
  ·exact h2
  ·split
   ·exact h2
   ·dsimp only
    intro f hf
    rcases List.mem_append.1 hf with hf|hf
    ·exact h2 f hf
    ·simp only [List.mem_singleton] at hf
     subst hf
     unfold ZKE ZFd
     dsimp only
     omega
theorem ZTu {m:Int} {l:List ZE} {o:ZE} {how:Int} (h:ZAd m l) (ho:0≤o.Left∧o.Left≤1000000):ZFq m o 64 (ZBF l o how):=by
 unfold ZBF
 have hm:∀ y∈ZCX l o how,y∈l:=fun y hy=>ZCS hy
 have hl:=ZFt (xs:=l) o how
 have hle:=h.2.2.1
 have key:∀ (ms:List ZE) (n:Nat) (c:ZCx),(∀ y∈ms,y∈l)→ZFq m o n c→ZFq m o (n+ms.length) (ms.foldl Zp c):=by
  intro ms
  induction ms with
  | nil=>intro n c _ hc; exact hc
  | cons x ms ih=>
    intro n c hms hc
    have hx:=hms x (by simp)
    have:=ih (n+1) (Zp c x) (fun y hy=>hms y (by simp [hy])) (hc.meet (h.2.1 x hx) (h.2.2.2 x hx).2)
    rw [List.length_cons,show n+(ms.length+1)=n+1+ms.length by omega]
    exact this
 have:=key (ZCX l o how) 0 ⟨l,o,[],[]⟩ hm ⟨h,by simp,Nat.le_refl _,Nat.le_refl _,ho.1,ho.2,rfl,rfl,rfl,rfl,rfl⟩
 obtain ⟨a1,a2,a3,a4,a5⟩:=this
 exact ⟨a1,a2,by omega,by omega,a5⟩
theorem ZIe {l:List ZE} {o:ZE} {how:Int} (h:ZCr l o how=0):1≤o.Left∧o.Left≤1000000:=by
 unfold ZCr at h
 split at h
 ·cases h
 ·rename_i hn
  have hn:ZD3 l o how=true:=by cases hb:ZD3 l o how with|true=>rfl|false=>exact absurd hb hn
  unfold ZD3 at hn
  split at hn
  ·cases hn
  split at hn
  ·cases hn
  split at hn
  ·cases hn
  have hb:Zs (ZBH o how)=true:=hn
  have hl2:(ZBH o how).Left=o.Left:=by unfold ZBH; split<;>rfl
  unfold Zs at hb
  simp only [Bool.and_eq_true,decide_eq_true_eq] at hb
  rw [hl2] at hb
  exact ⟨hb.2.2.2.2.1,hb.2.2.2.2.2.1⟩
theorem ZNb {m:Int} {l:List ZE} {o:ZE} {how:Int} (h:ZAd m l) (hs:o.Seq=m+1) (hw:0≤o.Owner∧o.Owner<8):
 ZAd (m+1) (doV l o how).1∧(∀ f∈(doV l o how).2.1,ZKE f)∧(doV l o how).2.1.length≤64∧(doV l o how).2.2.1.length≤64∧((doV l o how).2.2.2.2≠0→(doV l o how).1=l):=by
 unfold doV
 by_cases e:ZCr l o how≠0
 ·rw [if_pos e]
  exact ⟨h.mono (by omega),by simp,Nat.zero_le _,Nat.zero_le _,fun _=>rfl⟩
 ·rw [if_neg e]
  have hl:=ZIe (Classical.not_not.1 e)
  obtain ⟨c1,c2,c3,c4,c5,c6,c7,c8,_⟩:=ZTu (how:=how) h ⟨by omega,hl.2⟩
  refine ⟨?_,c2,c3,c4,fun h=>absurd rfl h⟩
  dsimp only
  split
  ·exact (c1.mono (by omega)).add (by rw [c7,hs]; omega) (by rw [c8]; exact hw)
  ·exact c1.mono (by omega)
structure WOk (N:Nat) (S:DS):Prop where
 bonds:∀ b∈S.bonds,1≤b.Tick∧1≤b.Lot∧1≤b.Low∧b.High≤1000000∧1≤b.Min∧b.Max≤1000000
 bl:S.books.length=S.bonds.length
 bl4:S.books.length≤4
 books:∀ b∈S.books,ZAd S.seq b
 pl:S.parties.length≤8
 qs:Srt Za.ID S.quotes
 qi:∀ q∈S.quotes,q.ID≤S.quote∧1≤q.Price∧q.Price≤1000000∧0≤q.Dealer∧q.Dealer<8
 sa:Srt Ask.ID S.asks
 ai:∀ a∈S.asks,a.ID≤S.ask∧1≤a.ID∧0≤a.Bond∧a.Bond<S.books.length∧1≤a.Qty∧a.Qty≤1000000∧0≤a.Client∧a.Client<8
 c1:0≤S.order∧S.order≤N
 c2:0≤S.seq∧S.seq≤N
 c3:0≤S.quote∧S.quote≤N
 c4:0≤S.ask∧S.ask≤N
 l1:S.quotes.length≤N
 l2:S.asks.length≤N
 l3:S.due≤2*N
 l4:S.trades.length≤64*N
 now:I64 S.now
theorem ZAv {S:DS} {n:Int} (h:isBond S n=true) (hl:S.books.length=S.bonds.length):ZAO S n∈S.bonds∧0≤n∧n<S.books.length∧S.bonds[n.toNat]?=some (ZAO S n):=by
 unfold isBond at h
 have h:=of_decide_eq_true h
 have hlt:n.toNat<S.bonds.length:=by omega
 unfold ZAO
 rw [List.getElem?_eq_getElem hlt]
 exact ⟨List.getElem_mem hlt,h.1,h.2,rfl⟩
theorem ZAw {S:DS} {n:Int} (h:0≤n∧n<S.books.length):Zq S n=S.books[n.toNat]'(by omega):=by
 unfold Zq
 rw [List.getElem?_eq_getElem (by omega)]
 rfl
theorem ZB0 {N:Nat} {S:DS} (i:WOk N S) {n:Int} (h:0≤n∧n<S.books.length):ZAd S.seq (Zq S n):=by
 rw [ZAw h]
 exact i.books _ (List.getElem_mem _)
theorem ZJS (who:Int):∀ (gs:List ZSs) (c:DC),(gs.foldl (ZC3 who) c).d=c.d∧(gs.foldl (ZC3 who) c).id=c.id
 | [],c=>⟨rfl,rfl⟩
 | g::gs,c=>ZJS who gs (ZC3 who c g)
theorem ZRQ {who:Int} (n:Int) (o:ZE):∀ (fs:List ZJl) (st:DC×Int),(fs.foldl (ZCK who n o) st).1.d={st.1.d with trades:=(fs.foldl (ZCK who n o) st).1.d.trades}∧(fs.foldl (ZCK who n o) st).1.id=st.1.id
 | [],st=>⟨rfl,rfl⟩
 | f::fs,st=>by
   have h:=ZRQ (who:=who) n o fs (ZCK who n o st f)
   rw [List.foldl_cons]
   exact ⟨h.1,h.2⟩
theorem ZRn {who:Int} (n:Int) (o:ZE):∀ (fs:List ZJl) (st:DC×Int),(fs.foldl (ZCK who n o) st).1.d.trades.length=st.1.d.trades.length+fs.length
 | [],st=>rfl
 | f::fs,st=>by
   rw [List.foldl_cons,ZRn n o fs]
   simp [ZCK,ZF3,ZBs]
   omega
def ZJK (c:DC) (n:Int) (o:ZE) (how:Int):List ZE×List ZJl×List ZSs×Int×Int:=doV (Zq c.d n) (ZGP c o) how
theorem ZED (c:DC) (who n:Int) (o:ZE) (how:Int):(ZAX c who n o how).1.d={c.d with books:=c.d.books.set n.toNat (ZJK c n o how).1,seq:=if (ZAX c who n o how).2=0 then c.d.seq+1 else c.d.seq,trades:=(ZAX c who n o how).1.d.trades}∧
 (ZAX c who n o how).1.id=c.id∧(ZAX c who n o how).2=(ZJK c n o how).2.2.2.2:=by
 unfold ZAX
 unfold ZJK
 generalize doV (Zq c.d n) (ZGP c o) how=r
 by_cases he:r.2.2.2.2≠0
 ·rw [if_pos he,if_neg he]
  exact ⟨rfl,rfl,rfl⟩
 ·rw [if_neg he]
  have he:r.2.2.2.2=0:=Classical.not_not.1 he
  have hd:=ZRQ (who:=who) n o r.2.1 ((r.2.2.1.foldl (ZC3 who) (ZJ4 c n r.1),o.Left))
  have hg:=ZJS who r.2.2.1 (ZJ4 c n r.1)
  dsimp only at hd
  rw [hg.1,hg.2] at hd
  generalize r.2.1.foldl (ZCK who n o) ((r.2.2.1.foldl (ZC3 who) (ZJ4 c n r.1),o.Left))=st at hd
  refine ⟨?_,?_,he.symm⟩
  ·simp only [if_true]
   split
   ·show st.1.d=_
    rw [hd.1]; rfl
   ·rw [hd.1]; rfl
  ·dsimp only
   split
   ·exact hd.2
   ·exact hd.2
theorem ZUs (c:DC) (who n:Int) (o:ZE) (how:Int) (h:(ZJK c n o how).2.1.length≤64):(ZAX c who n o how).1.d.trades.length≤c.d.trades.length+64:=by
 unfold ZAX
 unfold ZJK at h
 generalize doV (Zq c.d n) (ZGP c o) how=r at h
 by_cases he:r.2.2.2.2≠0
 ·rw [if_pos he]
  show c.d.trades.length≤_
  omega
 ·rw [if_neg he]
  have hd:=ZRn (who:=who) n o r.2.1 ((r.2.2.1.foldl (ZC3 who) (ZJ4 c n r.1),o.Left))
  have hg:=ZJS who r.2.2.1 (ZJ4 c n r.1)
  dsimp only at hd
  rw [hg.1] at hd
  have hm:(ZJ4 c n r.1).d.trades=c.d.trades:=rfl
  rw [hm] at hd
  generalize r.2.1.foldl (ZCK who n o) ((r.2.2.1.foldl (ZC3 who) (ZJ4 c n r.1),o.Left))=st at hd ⊢
  dsimp only
  split
  ·show st.1.d.trades.length≤_
   omega
  ·omega
theorem WOk.mono {N N':Nat} {S:DS} (h:WOk N S) (hN:N≤N'):WOk N' S:=
 {h with c1:=by have:=h.c1; omega,c2:=by have:=h.c2; omega,c3:=by have:=h.c3; omega,c4:=by have:=h.c4; omega,l1:=by have:=h.l1; omega,l2:=by have:=h.l2; omega,l3:=by have:=h.l3; omega,l4:=by have:=h.l4; omega}
theorem WOk.book {N:Nat} {S:DS} (h:WOk N S) {n:Nat} {x:List ZE} (hx:ZAd S.seq x):WOk N {S with books:=S.books.set n x}:=
 {h with
  bl:=by rw [List.length_set]; exact h.bl
  bl4:=by rw [List.length_set]; exact h.bl4
  books:=fun b hb=>(List.mem_or_eq_of_mem_set hb).elim (h.books b) fun e=>by subst e; exact hx
  ai:=fun a ha=>by rw [List.length_set]; exact h.ai a ha}
theorem WOk.meets {N:Nat} {c:DC} (h:WOk N c.d) {who n how:Int} {o:ZE} (hn:0≤n∧n<c.d.books.length) (hw:0≤o.Owner∧o.Owner<8):WOk (N+1) (ZAX c who n o how).1.d:=by
 have hbk:=ZB0 h hn
 have hdo:=ZNb (o:=ZGP c o) (how:=how) hbk rfl hw
 obtain ⟨e1,_,e3⟩:=ZED c who n o how
 have ht:=ZUs c who n o how hdo.2.2.1
 have h4:=h.l4
 have h2:=h.c2
 generalize ZAX c who n o how=r at*
 rw [e1]
 by_cases he:r.2=0
 ·rw [if_pos he]
  exact {h.mono (Nat.le_succ N) with
   bl:=by rw [List.length_set]; exact h.bl
   bl4:=by rw [List.length_set]; exact h.bl4
   books:=fun b hb=>(List.mem_or_eq_of_mem_set hb).elim (fun hb=>(h.books b hb).mono (by dsimp only; omega)) fun e=>by subst e; exact hdo.1
   ai:=fun a ha=>by rw [List.length_set]; exact h.ai a ha
   c2:=by dsimp only; omega
   l4:=by dsimp only; omega}
 ·rw [if_neg he]
  exact {h.mono (Nat.le_succ N) with
   bl:=by rw [List.length_set]; exact h.bl
   bl4:=by rw [List.length_set]; exact h.bl4
   books:=fun b hb=>(List.mem_or_eq_of_mem_set hb).elim (h.books b) fun e=>by
    rw [e]
    rw [e3] at he
    have:=hdo.2.2.2.2 he
    show ZAd c.d.seq (doV (Zq c.d n) (ZGP c o) how).1
    rw [this]
    exact hbk
   ai:=fun a ha=>by rw [List.length_set]; exact h.ai a ha
   l4:=by dsimp only; omega}
theorem WOk.quotes' {N:Nat} {S:DS} (h:WOk N S) {xs:List Za} (hs:Srt Za.ID xs) (hm:∀ q∈xs,∃ q0∈S.quotes,q0.ID=q.ID∧q0.Price=q.Price∧q0.Dealer=q.Dealer) (hl:xs.length≤S.quotes.length):WOk N {S with quotes:=xs}:=
 {h with
  qs:=hs
  qi:=fun q hq=>by
   obtain ⟨q0,h0,e1,e2,e3⟩:=hm q hq
   have:=h.qi q0 h0
   rw [e1,e2,e3] at this
   exact this
  l1:=Nat.le_trans hl h.l1}
theorem WOk.asks' {N:Nat} {S:DS} (h:WOk N S) {xs:List Ask} (hs:Srt Ask.ID xs) (hm:∀ q∈xs,∃ q0∈S.asks,q0.ID=q.ID∧q0.Bond=q.Bond∧q0.Qty=q.Qty∧q0.Client=q.Client) (hl:xs.length≤S.asks.length):WOk N {S with asks:=xs}:=
 {h with
  sa:=hs
  ai:=fun q hq=>by
   obtain ⟨q0,h0,e1,e2,e3,e4⟩:=hm q hq
   have:=h.ai q0 h0
   rw [e1,e2,e3,e4] at this
   exact this
  l2:=Nat.le_trans hl h.l2}
theorem ZHd {α:Type} {key:α→Int} {id:Int} {f:α→α} {xs:List α} {y:α} (h:y∈upd key id f xs):∃ x∈xs,y=x∨(key x=id∧y=f x):=by
 unfold upd at h
 obtain ⟨x,hx,rfl⟩:=List.mem_map.1 h
 refine ⟨x,hx,?_⟩
 by_cases e:key x=id
 ·rw [if_pos e]; exact .inr ⟨e,rfl⟩
 ·rw [if_neg e]; exact .inl rfl
theorem WOk.kill {N:Nat} {S:DS} (h:WOk N S) (id:Int):WOk N {S with quotes:=killQ S.quotes id}:=
 h.quotes' (h.qs.upd id fun _=>rfl) (fun q hq=>by
  obtain ⟨x,hx,rfl|⟨_,rfl⟩⟩:=ZHd hq
  ·exact ⟨q,hx,rfl,rfl,rfl⟩
  ·exact ⟨x,hx,rfl,rfl,rfl⟩) (by rw [killQ,ZRj]; exact Nat.le_refl _)
theorem WOk.clear {N:Nat} {S:DS} (h:WOk N S) (id:Int):WOk N {S with quotes:=ZIP S.quotes id}:=
 h.quotes' (h.qs.sublist List.filter_sublist) (fun q hq=>⟨q,(List.mem_filter.1 hq).1,rfl,rfl,rfl⟩) (List.length_filter_le _ _)
theorem WOk.updA {N:Nat} {S:DS} (h:WOk N S) (id:Int) {f:Ask→Ask} (hf:∀ x,(f x).ID=x.ID∧(f x).Bond=x.Bond∧(f x).Qty=x.Qty∧(f x).Client=x.Client):WOk N {S with asks:=upd Ask.ID id f S.asks}:=
 h.asks' (h.sa.upd id fun x=>(hf x).1) (fun q hq=>by
  obtain ⟨x,hx,rfl|⟨_,rfl⟩⟩:=ZHd hq
  ·exact ⟨q,hx,rfl,rfl,rfl,rfl⟩
  ·exact ⟨x,hx,(hf x).1.symm,(hf x).2.1.symm,(hf x).2.2.1.symm,(hf x).2.2.2.symm⟩) (by rw [ZRj]; exact Nat.le_refl _)
theorem ZG3 (xs:List Ask) (id q u:Int):(ZDc xs id q u).1=xs∨(ZDc xs id q u).1=upd Ask.ID id (ZVz q u) xs:=by
 unfold ZDc
 split
 ·exact .inl rfl
 ·split
  ·exact .inl rfl
  ·split
   ·exact .inl rfl
   ·exact .inr rfl
theorem ZEw (xs:List Ask) (id:Int):(ZGX xs id).1=xs∨(ZGX xs id).1=upd Ask.ID id ZWI xs:=by
 unfold ZGX
 split
 ·exact .inl rfl
 ·split
  ·exact .inl rfl
  ·exact .inr rfl
theorem ZF1 (xs:List Ask) (id st:Int):(ZP6 xs id st).1=xs∨(ZP6 xs id st).1=upd Ask.ID id (ZWJ st) xs:=by
 unfold ZP6
 split
 ·exact .inl rfl
 ·split
  ·exact .inl rfl
  ·split
   ·exact .inl rfl
   ·exact .inr rfl
theorem WOk.look {N:Nat} {S:DS} (h:WOk N S) (id q u:Int):WOk N {S with asks:=(ZDc S.asks id q u).1}:=by
 rcases ZG3 S.asks id q u with e|e<;>rw [e]
 ·exact h
 ·exact h.updA id fun x=>⟨rfl,rfl,rfl,rfl⟩
theorem WOk.back {N:Nat} {S:DS} (h:WOk N S) (id:Int):WOk N {S with asks:=(ZGX S.asks id).1}:=by
 rcases ZEw S.asks id with e|e<;>rw [e]
 ·exact h
 ·exact h.updA id fun x=>⟨rfl,rfl,rfl,rfl⟩
theorem WOk.end {N:Nat} {S:DS} (h:WOk N S) (id st:Int):WOk N {S with asks:=(ZP6 S.asks id st).1}:=by
 rcases ZF1 S.asks id st with e|e<;>rw [e]
 ·exact h
 ·exact h.updA id fun x=>⟨rfl,rfl,rfl,rfl⟩
theorem WOk.due1 {N:Nat} {S:DS} (h:WOk N S):WOk (N+1) {S with due:=S.due+1}:={h.mono (Nat.le_succ N) with l3:=by have:=h.l3; dsimp only; omega}
theorem WOk.used {N:Nat} {S:DS} (h:WOk N S) (us:List Int):WOk N {S with used:=us}:={h with}
theorem WOk.trade1 {N:Nat} {S:DS} (h:WOk N S) (t:ZAq):WOk (N+1) {S with trades:=S.trades++[t]}:={h.mono (Nat.le_succ N) with l4:=by have:=h.l4; rw [List.length_append]; simp; omega}
theorem ZQ9 {xs:List Ask} {a:Ask} (h:(ZIj xs a).2≠0):(ZIj xs a).1=xs:=by
 unfold ZIj at*
 split
 ·rfl
 ·rename_i h1
  rw [if_neg h1] at h
  split
  ·rfl
  ·rename_i h2
   rw [if_neg h2] at h
   exact absurd rfl h
theorem ZPo {xs:List Za} {q:Za} (h:(ZIp xs q).2≠0):(ZIp xs q).1=xs:=by
 unfold ZIp at*
 split
 ·rfl
 ·rename_i h1
  rw [if_neg h1] at h
  exact absurd rfl h
theorem ZO3 {xs:List Ask} {id q u:Int} (h:(ZDc xs id q u).2≠0):(ZDc xs id q u).1=xs:=by
 unfold ZDc at*
 split
 ·rfl
 ·rename_i x hx
  rw [hx] at h
  dsimp only at h
  split
  ·rfl
  ·rename_i h1
   rw [if_neg h1] at h
   split
   ·rfl
   ·rename_i h2
    rw [if_neg h2] at h
    exact absurd rfl h
theorem ZQY {ps:List Z3} {us:List Int} {w p q:Int} (h:(ZK2 ps us w p q).2≠0):(ZK2 ps us w p q).1=us:=by
 unfold ZK2 at*
 split
 ·rename_i h1
  rw [if_pos h1] at h
  exact absurd rfl h
 ·rfl
theorem ZDK {xs:List Ask} {id:Int} {a:Ask} (h:getA xs id=some a):a∈xs∧a.ID=id:=⟨List.mem_of_find?_eq_some h,by have:=List.find?_some h; simpa using this⟩
theorem ZJN {xs:List Za} {id:Int} {a:Za} (h:getQ xs id=some a):a∈xs∧a.ID=id:=⟨List.mem_of_find?_eq_some h,by have:=List.find?_some h; simpa using this⟩
section
variable {k:DK} {S:DS} {b:Nat} {who:Int} {c:DC} {h:Hp} {l:List Hp} {N:Nat}
theorem Zt.setSeq (a:Zt k S h l) {v:Int} {K:Hp→Prop} (hK:∀ h',Zt k {S with seq:=v} h' l→K h'):ZU (cI .i64) ⟨k.b,13,none⟩ v h K:=by
 obtain ⟨R,o,cl⟩:=a.nums
 exact ZZ (cd:=cI .i64) (i:=13) (x:=v) (vs':=ZAF k {S with seq:=v}) o rfl rfl (by show 13+1≤16; omega) fun h2 o2=>hK h2 (cl h2 l S.now S.order v S.quote S.ask o2)
theorem Zt.setOrder (a:Zt k S h l) {v:Int} {K:Hp→Prop} (hK:∀ h',Zt k {S with order:=v} h' l→K h'):ZU (cI .i64) ⟨k.b,12,none⟩ v h K:=by
 obtain ⟨R,o,cl⟩:=a.nums
 exact ZZ (cd:=cI .i64) (i:=12) (x:=v) (vs':=ZAF k {S with order:=v}) o rfl rfl (by show 12+1≤16; omega) fun h2 o2=>hK h2 (cl h2 l S.now v S.seq S.quote S.ask o2)
theorem Zt.setQuote (a:Zt k S h l) {v:Int} {K:Hp→Prop} (hK:∀ h',Zt k {S with quote:=v} h' l→K h'):ZU (cI .i64) ⟨k.b,14,none⟩ v h K:=by
 obtain ⟨R,o,cl⟩:=a.nums
 exact ZZ (cd:=cI .i64) (i:=14) (x:=v) (vs':=ZAF k {S with quote:=v}) o rfl rfl (by show 14+1≤16; omega) fun h2 o2=>hK h2 (cl h2 l S.now S.order S.seq v S.ask o2)
theorem Zt.setAsk (a:Zt k S h l) {v:Int} {K:Hp→Prop} (hK:∀ h',Zt k {S with ask:=v} h' l→K h'):ZU (cI .i64) ⟨k.b,15,none⟩ v h K:=by
 obtain ⟨R,o,cl⟩:=a.nums
 exact ZZ (cd:=cI .i64) (i:=15) (x:=v) (vs':=ZAF k {S with ask:=v}) o rfl rfl (by show 15+1≤16; omega) fun h2 o2=>hK h2 (cl h2 l S.now S.order S.seq S.quote v o2)
theorem Zt.setNow (a:Zt k S h l) {v:Int} {K:Hp→Prop} (hK:∀ h',Zt k {S with now:=v} h' l→K h'):ZU (cI .i64) ⟨k.b,4,none⟩ v h K:=by
 obtain ⟨R,o,cl⟩:=a.nums
 exact ZZ (cd:=cI .i64) (i:=4) (x:=v) (vs':=ZAF k {S with now:=v}) o rfl rfl (by show 4+1≤16; omega) fun h2 o2=>hK h2 (cl h2 l v S.order S.seq S.quote S.ask o2)
theorem Has.setSeq (a:Has k b who c h l) {v:Int} {K:Hp→Prop} (hK:∀ h',Has k b who {c with d:={c.d with seq:=v}} h' l→K h'):ZU (cI .i64) ⟨k.b,13,none⟩ v h K:=by
 obtain ⟨C,wc,a⟩:=a
 exact a.setSeq fun h' a'=>hK h' ⟨C,wc,a'⟩
theorem Has.setOrder (a:Has k b who c h l) {v:Int} {K:Hp→Prop} (hK:∀ h',Has k b who {c with d:={c.d with order:=v}} h' l→K h'):ZU (cI .i64) ⟨k.b,12,none⟩ v h K:=by
 obtain ⟨C,wc,a⟩:=a
 exact a.setOrder fun h' a'=>hK h' ⟨C,wc,a'⟩
theorem Has.setQuote (a:Has k b who c h l) {v:Int} {K:Hp→Prop} (hK:∀ h',Has k b who {c with d:={c.d with quote:=v}} h' l→K h'):ZU (cI .i64) ⟨k.b,14,none⟩ v h K:=by
 obtain ⟨C,wc,a⟩:=a
 exact a.setQuote fun h' a'=>hK h' ⟨C,wc,a'⟩
theorem Has.setAsk (a:Has k b who c h l) {v:Int} {K:Hp→Prop} (hK:∀ h',Has k b who {c with d:={c.d with ask:=v}} h' l→K h'):ZU (cI .i64) ⟨k.b,15,none⟩ v h K:=by
 obtain ⟨C,wc,a⟩:=a
 exact a.setAsk fun h' a'=>hK h' ⟨C,wc,a'⟩
theorem ZBh {to kind:Int} {ns:List Int} (a:Has k b who c h l) (hn:ns.length≤6) (hl:c.outs.length≤1000000) {Q:PUnit→Hp→Prop} (hq:∀ h',Has k b who (ZBs c to kind ns) h' l→Q ⟨⟩ h'):
 ZL (.cells (ZG (cI .i64) ns).toArray 2 (0,0)) h fun k1 h1=>ZA TP 86 [Value.pointer (some ⟨b,0,none⟩),Value.int .i64 to,Value.int .i64 kind,Value.slice (some ⟨k1,0,none⟩) ns.length ns.length] (ZW []) h1 Q:=
 a.new fun k1 h1 a1=>ZTQ (s:=⟨some ⟨k1,0,none⟩,ns.length,ns.length⟩) (g:=Go.Eng.ob k1 (ZG (cI .i64) ns) 2) a1 (Zf rfl rfl) (by simp) hn hl fun h2 a2=>hq h2 a2.drop
theorem ZFQ (who:Int):∀ (gs:List ZSs) (c:DC),(gs.foldl (ZC3 who) c).outs.length=c.outs.length+gs.length∧(gs.foldl (ZC3 who) c).d=c.d
 | [],c=>⟨rfl,rfl⟩
 | g::gs,c=>by
   have:=ZFQ who gs (ZC3 who c g)
   refine ⟨?_,this.2⟩
   rw [List.foldl_cons,this.1]
   simp [ZC3,ZBs]
   omega
theorem ZFS (n:Int) (o:ZE):∀ (fs:List ZJl) (st:DC×Int),(fs.foldl (ZCK who n o) st).1.outs.length=st.1.outs.length+4*fs.length∧(fs.foldl (ZCK who n o) st).1.d.trades.length=st.1.d.trades.length+fs.length∧(fs.foldl (ZCK who n o) st).1.d.now=st.1.d.now
 | [],c=>⟨rfl,rfl,rfl⟩
 | f::fs,st=>by
   have:=ZFS n o fs (ZCK who n o st f)
   refine ⟨?_,?_,this.2.2⟩
   ·rw [List.foldl_cons,this.1]
    simp [ZCK,ZF3,ZBs,ZH5]
    omega
   ·rw [List.foldl_cons,this.2.1]
    simp [ZCK,ZF3,ZBs]
    omega
theorem ZKL {n how:Int} {o:ZE} (a:Has k b who c h l) (i:WOk N c.d) (hN:N≤10000) (hn:0≤n∧n<c.d.books.length) (hw:0≤who∧who<8) (how8:0≤o.Owner∧o.Owner<8) (ho:c.outs.length≤500000)
 {Q:Int→Hp→Prop} (hq:∀ h',Has k b who (ZAX c who n o how).1 h' l→Q (ZAX c who n o how).2 h'):
 ZA TP 278 [Value.pointer k.p,Value.pointer (some ⟨b,0,none⟩),Value.int .i64 n,ZK.enc o,Value.int .i64 how] (cI .i64) h Q:=by
 refine c278 ?_
 unfold F278
 have hc2:=i.c2
 have hl4:=i.l4
 have hbk:=ZB0 i hn
 have hdo:=ZNb (o:=ZGP c o) (how:=how) hbk rfl how8
 have hget:=ZAw hn
 obtain ⟨m,rfl⟩:=Int.eq_ofNat_of_zero_le hn.1
 have hm:m<c.d.books.length:=by omega
 unfold ZAX at hq
 refine ZF (cd:=cI .i64) (x:=c.d.seq) a.ob (i:=13) rfl ?_
 rw [w64 (by omega) (by omega)]
 obtain ⟨C,wc,a⟩:=a
 obtain ⟨cb,R,q,o1,w1,hld,cl⟩:=a.book hm
 refine hld ?_
 have hget:Zq c.d ((m:Nat):Int)=c.d.books[m]:=hget
 rw [←hget] at w1
 refine ZZO (x:=ZGP c o) (how:=how) o1 w1 hbk.1 hbk.2.1 (by have:=hbk.2.2.1; omega) fun sf sg c2 df dg h2 o2 w2 wf wg=>?_
 have a2:=cl h2 c2 _ _ (o2.pick [0,3,1,2] 4 (by decide) (by decide)) w2
 have a3:Has k b who {c with d:={c.d with books:=c.d.books.set m (doV (Zq c.d ((m:Nat):Int)) (ZGP c o) how).1}} h2 (df::dg::l):=
  ⟨C,wc,a2.perm ((List.Perm.swap _ _ _ |>.cons _).trans (List.Perm.swap _ _ _))⟩
 unfold ZJ4 ZBV at hq
 simp only [Int.toNat_natCast] at hq
 generalize doV (Zq c.d ((m:Nat):Int)) (ZGP c o) how=r at hq wf wg a3 hdo
 obtain ⟨xs,fs,gs,left,e⟩:=r
 dsimp only at hq wf wg a3 hdo ⊢
 obtain ⟨_,hf,hfl,hgl,_⟩:=hdo
 refine ZD (fun he=>?_) fun he=>?_
 ·rw [if_pos (by simpa using he)] at hq
  exact hq h2 a3.drop.drop
 rw [if_neg (by simpa using he)] at hq
 have he:e=0:=by simpa using he
 refine ZF (cd:=cI .i64) (x:=c.d.seq) a3.ob (i:=13) rfl ?_
 rw [w64 (by omega) (by omega)]
 dsimp only [ZR,DK.p]
 refine a3.setSeq fun h4 a4=>?_
 have a4:Has k b who {c with d:={c.d with books:=c.d.books.set m xs,seq:=c.d.seq+1}} h4 (df::dg::l):=a4
 generalize hcm:({c with d:={c.d with books:=c.d.books.set m xs,seq:=c.d.seq+1}}:DC)=cm at hq a4
 have hcm1:cm.outs=c.outs:=by rw [←hcm]
 have hcm2:cm.d.trades=c.d.trades:=by rw [←hcm]
 have hcm3:cm.d.now=c.d.now:=by rw [←hcm]
 have hgn:=wg.1
 have hfn:=wf.1
 refine Zb (fun z h'=>∃ i:Nat,z=(i:Int)∧i≤gs.length∧Has k b who ((gs.take i).foldl (ZC3 who) cm) h' (df::dg::l)) (fun z=>gs.length-z.toNat) ⟨0,rfl,Nat.zero_le _,a4⟩ ?_
 rintro J z h5 again ⟨j,rfl,hj,a5⟩
 refine ZH (fun hlt=>?_) fun hge=>?_
 ·have hj':j<gs.length:=by omega
  have a0:gs[j]?=some gs[j]:=List.getElem?_eq_getElem hj'
  have est:=Z5 (ZC3 who) cm gs a0
  have hlen:=(ZFQ who (gs.take j) cm).1
  rw [List.length_take] at hlen
  refine ZM wg.row (Int.natCast_nonneg j) (by omega) fun p hp=>ZO wg.row (a5.sub (by simp)) rfl hp (i:=j) a0 (by rfl) ?_
  refine a5.ldWho ?_
  refine ZBh (ns:=[gs[j].ID,gs[j].Left]) a5 (by simp) (by rw [hlen,hcm1]; omega) fun h6 a6=>?_
  rw [ZAH (by omega)]
  exact again _ _ ⟨j+1,rfl,by omega,by rw [est]; exact a6⟩ (by omega)
 ·have:j=gs.length:=by omega
  subst this
  rw [List.take_length] at a5
  have hcg:=ZFQ who gs cm
  generalize gs.foldl (ZC3 who) cm=cg at hq a5 hcg
  have hcgo:cg.outs.length≤c.outs.length+64:=by rw [hcg.1,hcm1]; omega
  have hcgt:cg.d.trades.length=c.d.trades.length:=by rw [hcg.2,hcm2]
  have hcgn:cg.d.now=c.d.now:=by rw [hcg.2,hcm3]
  refine Zb (fun z h'=>∃ i:Nat,z=(((fs.take i).foldl (ZCK who (m:Int) o) (cg,o.Left)).2,(i:Int))∧i≤fs.length∧Has k b who ((fs.take i).foldl (ZCK who (m:Int) o) (cg,o.Left)).1 h' (df::dg::l)) (fun z=>fs.length-z.2.toNat) ⟨0,rfl,Nat.zero_le _,a5⟩ ?_
  rintro J2 z h6 again2 ⟨j,rfl,hj,a6⟩
  dsimp only
  refine ZH (fun hlt=>?_) fun hge=>?_
  ·have hj':j<fs.length:=by omega
   have a0:fs[j]?=some fs[j]:=List.getElem?_eq_getElem hj'
   have est:=Z5 (ZCK who (m:Int) o) (cg,o.Left) fs a0
   have hfj:=hf fs[j] (List.getElem_mem hj')
   obtain ⟨hl1,hl2,hl3⟩:=ZFS (who:=who) (m:Int) o (fs.take j) (cg,o.Left)
   rw [List.length_take] at hl1 hl2
   generalize fs[j]=f at a0 est hfj
   generalize (fs.take j).foldl (ZCK who (m:Int) o) (cg,o.Left)=st at*
   dsimp only at hl1 hl2 hl3
   refine ZM wf.row (Int.natCast_nonneg j) (by omega) fun p hp=>ZO wf.row (a6.sub (by simp)) rfl hp (i:=j) a0 (by rfl) ?_
   refine ZBh (ns:=[f.Maker,f.Price,f.Qty,f.Left]) a6 (by simp) (by omega) fun h7 a7=>?_
   refine a7.ldWho ?_
   refine ZBh (ns:=[o.ID,f.Price,f.Qty,IntKind.i64.wrap (st.2-f.Qty)]) a7 (by simp) (by simp [ZBs]; omega) fun h8 a8=>?_
   refine a8.ldWho ?_
   have hbl:=i.bl4
   refine ZKa (t:=ZOc (m:Int) f) a8 ?_ (by show st.1.d.trades.length≤_; omega) (by simp [ZBs]; omega) fun h9 a9=>?_
   ·have hnow:=i.now
    have e1:(ZBs (ZBs st.1 f.MakerParty 20 [f.Maker,f.Price,f.Qty,f.Left]) who 20 [o.ID,f.Price,f.Qty,IntKind.i64.wrap (st.2-f.Qty)]).d.now=c.d.now:=by show st.1.d.now=_; rw [hl3,hcgn]
    unfold ZKE at hfj
    unfold ZCc ZBI ZOc I64
    unfold I64 at hnow
    rw [e1]
    dsimp only
    refine ⟨by omega,by omega,?_,?_,by omega,by omega,by omega,by omega⟩
    ·split<;>omega
    ·split<;>omega
   ·rw [ZAH (by omega)]
    refine again2 _ _ ⟨j+1,?_,by omega,?_⟩ (by dsimp only; omega)
    ·rw [est]; rfl
    ·rw [est]; exact a9
  ·have:j=fs.length:=by omega
   subst this
   rw [List.take_length] at a6
   have hcf:=(ZFS (who:=who) (m:Int) o fs (cg,o.Left)).1
   generalize fs.foldl (ZCK who (m:Int) o) (cg,o.Left)=st at hq a6 hcf
   dsimp only at hcf
   refine ZN (fun t h'=>h'=h6∧t=decide (how≠0∧how≠3∧0<left)) ?_ fun J3 hJ3=>?_
   ·rintro t h' ⟨rfl,rfl⟩
    refine ZH (fun hc=>?_) fun hc=>?_
    ·rw [if_pos hc] at hq
     refine a6.ldWho ?_
     refine ZBh (ns:=[o.ID,left]) a6 (by simp) (by omega) fun h7 a7=>?_
     exact hq h7 a7.drop.drop
    ·rw [if_neg hc] at hq
     exact hq h' a6.drop.drop
   ·refine ZD (fun e1=>ZD (fun e2=>hJ3 _ _ ⟨rfl,?_⟩) fun e2=>hJ3 _ _ ⟨rfl,?_⟩) fun e1=>hJ3 _ _ ⟨rfl,?_⟩
    ·have e1:how≠0:=by simpa using e1
     have e2:how≠3:=by simpa using e2
     exact decide_eq_decide.2 ⟨fun h=>⟨e1,e2,h⟩,fun h=>h.2.2⟩
    ·have e2:how=3:=by simpa using e2
     exact (decide_eq_false fun h=>h.2.1 e2).symm
    ·have e1:how=0:=by simpa using e1
     exact (decide_eq_false fun h=>h.1 e1).symm
end
section
variable {k:DK} {S:DS} {b:Nat} {who:Int} {c:DC} {h:Hp} {l:List Hp} {N:Nat}
theorem Zt.ldBond {n:Int} (a:Zt k S h l) (hb:isBond S n=true) (hl:S.books.length=S.bonds.length) {K:Bond→Prop} (hK:K (ZAO S n)):
 ZC cSl ⟨k.b,0,none⟩ h fun s=>Zi s.a s.len n fun p=>ZC Z8 (p.add (n.toNat*7)) h K:=by
 obtain ⟨_,h0,h1,hx⟩:=ZAv hb hl
 obtain ⟨D,o,w⟩:=a
 obtain ⟨dB,hB,wB⟩:=w.bonds_sub (o.mem (by simp))
 have hlen:=wB.1
 refine ZF (cd:=cSl) (x:=k.sb) (w.ob (o.mem (by simp))) (i:=0) rfl ?_
 refine ZM wB.row h0 (by omega) fun p hp=>?_
 exact ZO wB.row hB rfl hp (i:=n.toNat) hx rfl hK
theorem Zt.ldHalted {n:Int} (a:Zt k S h l) (hb:isBond S n=true) (hl:S.books.length=S.bonds.length) {K:Bool→Prop} (hK:K (ZAO S n).Halted):
 ZC cSl ⟨k.b,0,none⟩ h fun s=>Zi s.a s.len n fun p=>ZC cB ⟨(p.add (n.toNat*7)).block,(p.add (n.toNat*7)).off+6,none⟩ h K:=by
 obtain ⟨_,h0,h1,hx⟩:=ZAv hb hl
 obtain ⟨D,o,w⟩:=a
 obtain ⟨dB,hB,wB⟩:=w.bonds_sub (o.mem (by simp))
 have hlen:=wB.1
 refine ZF (cd:=cSl) (x:=k.sb) (w.ob (o.mem (by simp))) (i:=0) rfl ?_
 refine ZM wB.row h0 (by omega) fun p hp=>?_
 rw [wB.part_at hp]
 exact Zo (cd:=Z8) (cf:=cB) wB.row hB rfl hp (i:=n.toNat) hx rfl (k:=6) (y:=(ZAO S n).Halted) rfl hK
theorem Has.ldBond {n:Int} (a:Has k b who c h l) (hb:isBond c.d n=true) (hl:c.d.books.length=c.d.bonds.length) {K:Bond→Prop} (hK:K (ZAO c.d n)):
 ZC cSl ⟨k.b,0,none⟩ h fun s=>Zi s.a s.len n fun p=>ZC Z8 (p.add (n.toNat*7)) h K:=by
 obtain ⟨C,wc,a⟩:=a
 exact a.ldBond hb hl hK
theorem Has.ldHalted {n:Int} (a:Has k b who c h l) (hb:isBond c.d n=true) (hl:c.d.books.length=c.d.bonds.length) {K:Bool→Prop} (hK:K (ZAO c.d n).Halted):
 ZC cSl ⟨k.b,0,none⟩ h fun s=>Zi s.a s.len n fun p=>ZC cB ⟨(p.add (n.toNat*7)).block,(p.add (n.toNat*7)).off+6,none⟩ h K:=by
 obtain ⟨C,wc,a⟩:=a
 exact a.ldHalted hb hl hK
theorem Has.isBond {n:Int} (a:Has k b who c h l) {Q:Bool→Hp→Prop} (hq:Q (Go.Proofs.YtkmniidiifpdgaaGreat.isBond c.d n) h):ZA TP 56 [Value.pointer k.p,Value.int .i64 n] cB h Q:=by
 obtain ⟨C,wc,a⟩:=a
 exact ZKb a hq
theorem ZBC {n:Int}:isBond S n=true↔0≤n∧n<S.books.length:=decide_eq_true_iff
theorem ZTo {m:Msg} (a:Has k b who c h l) (i:WOk N c.d) (hN:N≤9000) (hw:0≤who∧who<8) (ho:c.outs.length≤500000) {Q:Int→Hp→Prop} (hq:∀ h',Has k b who (ZD8 c who m).1 h' l→Q (ZD8 c who m).2 h'):
 ZA TP 200 [Value.pointer k.p,Value.pointer (some ⟨b,0,none⟩),ZAY.enc m] (cI .i64) h Q:=by
 refine c200 ?_
 unfold F200
 unfold ZD8 at hq
 have hc1:=i.c1
 refine ⟨by decide,by decide,by decide,by decide,by decide,by decide,by decide,by decide,by decide,by decide,?_⟩
 refine a.isBond (ZD (fun e=>?_) fun e=>?_)
 ·rw [if_pos (by simpa using e)] at hq
  exact hq h a
 have e:isBond c.d m.F_0=true:=by simpa using e
 rw [if_neg (by rw [e]; simp)] at hq
 refine ZN (fun t h'=>h'=h∧t=decide (ZBK m.F_1=false∨m.F_4<0∨4<m.F_4)) ?_ fun J hJ=>?_
 ·rintro t h' ⟨rfl,rfl⟩
  refine ZH (fun hc=>?_) fun hc=>?_
  ·rw [if_pos hc] at hq
   exact hq h' a
  rw [if_neg hc] at hq
  dsimp only [ZR,DK.p]
  have hb:=i.bonds _ (ZAv e i.bl).1
  refine a.ldBond e i.bl ?_
  refine ZV7 (x:=ZAO c.d m.F_0) (by omega) (by omega) ?_
  refine ZD (fun hf=>?_) fun hf=>?_
  ·rw [if_pos (by simpa using hf)] at hq
   exact hq h' a
  rw [if_neg (by simpa using hf)] at hq
  refine ZF (cd:=cI .i64) (x:=c.d.order) a.ob (i:=12) rfl ?_
  refine a.ldWho ?_
  rw [w64 (by omega) (by omega)]
  have hd:=ZED c who m.F_0 (ZBQ c who m) m.F_4
  refine ZKL (o:=ZBQ c who m) (how:=m.F_4) a i (by omega) (ZBC.1 e) hw hw ho fun h4 a4=>?_
  generalize ZAX c who m.F_0 (ZBQ c who m) m.F_4=r at hq a4 hd
  have hord:r.1.d.order=c.d.order:=by rw [hd.1]
  refine ZD (fun e0=>?_) fun e0=>?_
  ·have e0:r.2=0:=by simpa using e0
   rw [if_pos e0] at hq
   rw [e0]
   refine ZF (cd:=cI .i64) (x:=r.1.d.order) a4.ob (i:=12) rfl ?_
   rw [w64 (by omega) (by omega)]
   refine a4.setOrder fun h5 a5=>?_
   refine ZF (cd:=cI .i64) (x:=r.1.d.order+1) a5.ob (i:=12) rfl ?_
   exact a5.setId fun h6 a6=>hq h6 a6
  ·rw [if_neg (by simpa using e0)] at hq
   exact hq h4 a4
 ·refine ZC1 (ZD (fun e=>hJ _ _ ⟨rfl,?_⟩) fun e=>ZH (fun e2=>hJ _ _ ⟨rfl,?_⟩) fun e2=>hJ _ _ ⟨rfl,?_⟩)
  ·rw [Bool.eq_iff_iff]; simp_all
  ·rw [Bool.eq_iff_iff]; simp_all
  ·have e:ZBK m.F_1=true:=by simpa using e
   exact decide_eq_decide.2 (by rw [e]; simp; omega)
theorem ZPv {n:Int} {x:ZE} {price qty:Int} (a:Has k b who c h l) (i:WOk N c.d) (hN:N≤9000) (hw:0≤who∧who<8) (ho:c.outs.length≤500000) (hn:isBond c.d n=true) (hx:0≤x.Owner∧x.Owner<8) {Q:Int→Hp→Prop}
 (hq:∀ h',Has k b who (ZC0 c who n x price qty).1 h' l→Q (ZC0 c who n x price qty).2 h'):
 ZA TP 204 [Value.pointer k.p,Value.pointer (some ⟨b,0,none⟩),Value.int .i64 n,ZK.enc x,Value.int .i64 price,Value.int .i64 qty] (cI .i64) h Q:=by
 refine c204 ?_
 unfold F204
 unfold ZC0 at hq
 dsimp only [ZR,DK.p]
 have hb:=i.bonds _ (ZAv hn i.bl).1
 have hnn:=ZBC.1 hn
 refine a.ldBond hn i.bl ?_
 refine ZN2 (b:=ZAO c.d n) (by omega) (by omega) ?_
 refine ZD (fun hf=>?_) fun hf=>?_
 ·rw [if_pos (by simpa using hf)] at hq
  exact hq h a
 rw [if_neg (by simpa using hf)] at hq
 have hbk:=ZB0 i hnn
 have hget:=ZAw hnn
 refine ZN (fun t h'=>h'=h∧t=decide (price=x.Price∧qty≤x.Left)) ?_ fun J hJ=>?_
 ·rintro t h' ⟨rfl,rfl⟩
  obtain ⟨mm,rfl⟩:=Int.eq_ofNat_of_zero_le hnn.1
  have hm:mm<c.d.books.length:=by omega
  have hget:Zq c.d ((mm:Nat):Int)=c.d.books[mm]:=hget
  obtain ⟨C,wc,a⟩:=a
  obtain ⟨cb,R,q,o1,w1,hld,cl⟩:=a.book hm
  rw [←hget] at w1
  refine ZH (fun hc=>?_) fun hc=>?_
  ·rw [if_pos hc] at hq
   refine hld ?_
   refine ZNH (left:=qty) o1 w1 (by have:=hbk.2.2.1; omega) fun c2 h2 o2 w2=>?_
   exact hq h2 ⟨C,wc,cl h2 c2 _ _ o2 w2⟩
  ·rw [if_neg hc] at hq
   refine hld ?_
   refine ZFM o1 w1 (by have:=hbk.2.2.1; omega) fun c2 h2 o2 w2=>?_
   have a2:Has k b who {c with d:=ZBV c.d (mm:Int) (ZBu (Zq c.d (mm:Int)) x.ID)} h2 l:=⟨C,wc,cl h2 c2 _ _ o2 w2⟩
   refine ZKL (o:=ZF2 x price qty) (how:=0) a2 (i.book (hbk.sub (ZAj _ _))) (by omega) (by show 0≤_∧_<((List.set _ _ _).length:Int); rw [List.length_set]; exact hnn) hw hx ho fun h3 a3=>?_
   exact hq h3 a3
 ·refine ZD (fun e=>hJ _ _ ⟨rfl,?_⟩) fun e=>hJ _ _ ⟨rfl,?_⟩
  ·have e:price=x.Price:=by simpa using e
   exact decide_eq_decide.2 ⟨fun h=>⟨e,h⟩,fun h=>h.2⟩
  ·have e:¬price=x.Price:=by simpa using e
   exact (decide_eq_false fun h=>e h.1).symm
end
section
variable {k:DK} {S:DS} {b:Nat} {who:Int} {c:DC} {h:Hp} {l:List Hp} {N:Nat}
theorem Zt.book2 (a:Zt k S h l) {i:Nat} (hi:i<S.books.length):k.sk.len=S.books.length∧∃ c R q,On h (c::R::l)∧Zh q S.books[i] c∧(∀ {K:Option Addr→Prop},K q→Zi k.sk.a k.sk.len (i:Int) fun a=>ZC cP (a.add ((i:Int).toNat*1)) h K)∧
 ∀ h' c' l' x,On h' (c'::R::l')→Zh q x c'→Zt k {S with books:=S.books.set i x} h' l':=by
 obtain ⟨D,o,w⟩:=a
 obtain ⟨dB,dP,dK,cF,cQ,cA,cD,cO,cT,ks,cs,oc,wB,wP,wK,wF,wQ,wA,wD,wO,wT,wb⟩:=w
 obtain ⟨hb1,hb2,hb3⟩:=wb
 have hc:cs[i]?=some cs[i]:=List.getElem?_eq_getElem (by omega)
 have hk:ks[i]?=some ks[i]:=List.getElem?_eq_getElem (by omega)
 have hx:S.books[i]?=some S.books[i]:=List.getElem?_eq_getElem hi
 obtain ⟨R,o1,_,hcl⟩:=ZPh o oc (i:=i+10) hc
 refine ⟨by rw [←hb1]; exact wK.1,cs[i],R,ks[i],o1,hb3 i _ _ _ hk hx hc,fun {K} hK=>?_,fun h' c' l' x o' w'=>?_⟩
 ·have hD:D.sub h:=o.mem (by simp)
  have:=wK.1
  refine ZM wK.row (Int.natCast_nonneg i) (by omega) fun a ha=>?_
  exact ZO wK.row (Hp.sub_trans (oc.mem (c:=dK) (by simp)) hD) rfl ha (i:=i) hk rfl hK
 ·obtain ⟨D',o2,o3⟩:=hcl h' _ l' o'
  exact ⟨D',o2,dB,dP,dK,cF,cQ,cA,cD,cO,cT,ks,cs.set i c',o3,wB,wP,wK,wF,wQ,wA,wD,wO,wT,Books.set ⟨hb1,hb2,hb3⟩ hk w'⟩
theorem ZLs {k1:Nat} {id:Int} (a:Zt k S h (Go.Eng.ob k1 [Value.int .i64 id] 2::l)) (hb:∀ x∈S.books,x.length≤1000) (hl:S.books.length≤1000) {Q:Int→Hp→Prop}
 (hq:∀ h',Zt k S h' (Go.Eng.ob k1 [Value.int .i64 id] 2::l)→Q (ZOi (ZBR S id)) h'):
 ZA TP 201 [Value.slice k.sk.a k.sk.len k.sk.cap,Value.func (Fn.func 202) #[] #[Value.pointer (some ⟨k1,0,none⟩)]] (cI .i64) h Q:=by
 refine c201 (p0:=k.sk) (p1:=⟨202,#[],#[Value.pointer (some ⟨k1,0,none⟩)]⟩) ?_
 unfold F201
 have hskl:k.sk.len=S.books.length:=by
  obtain ⟨D,o,dB,dP,dK,cF,cQ,cA,cD,cO,cT,ks,cs,oc,wB,wP,wK,wF,wQ,wA,wD,wO,wT,wb⟩:=a
  rw [←wb.1]; exact wK.1
 refine Zb (fun z h'=>∃ i:Nat,z=(i:Int)∧i≤S.books.length∧Zt k S h' (Go.Eng.ob k1 [Value.int .i64 id] 2::l)∧∀ j (hj:j<S.books.length),j<i→(ZUw S.books[j] id).isSome=false) (fun z=>S.books.length-z.toNat)
  ⟨0,rfl,Nat.zero_le _,a,fun j _ hj=>by omega⟩ ?_
 rintro J z h1 again ⟨i,rfl,hi,a1,hno⟩
 refine ZH (fun hlt=>?_) fun hge=>?_
 ·have hi':i<S.books.length:=by omega
  obtain ⟨_,cb,R,q,o1,w1,hld,cl⟩:=a1.book2 hi'
  refine hld ?_
  refine ⟨⟨Tryz.f202,_,Tryz.func202,rfl⟩,?_⟩
  refine c202 ?_
  unfold F202
  refine ZJ (cd:=cI .i64) (x:=id) o1 2 (i:=0) rfl rfl ?_
  refine ZQg o1 w1 (hb _ (List.getElem_mem hi')) fun c2 h2 o2 w2=>?_
  have a2:=cl h2 c2 _ _ o2 w2
  rw [List.set_getElem_self] at a2
  have a2:Zt k S h2 (Go.Eng.ob k1 [Value.int .i64 id] 2::l):=a2
  have er:(ZRJ S.books[i] id).2=(ZUw S.books[i] id).isSome:=by
   unfold ZRJ
   cases ZUw S.books[i] id<;>rfl
  rw [er]
  refine ZD (fun e=>?_) fun e=>?_
  ·have ef:ZBR S id=some i:=by
    unfold ZBR
    rw [List.findIdx?_eq_some_iff_getElem]
    exact ⟨hi',e,fun j hj=>by rw [hno j (by omega) hj]; simp⟩
   have hq:=hq h2 a2
   rw [ef] at hq
   exact hq
  ·rw [ZAH (by omega)]
   refine again _ _ ⟨i+1,rfl,by omega,a2,fun j hj hji=>?_⟩ (by omega)
   rcases Nat.lt_or_ge j i with h'|h'
   ·exact hno j hj h'
   ·have:j=i:=by omega
    subst this
    exact e
 ·have ef:ZBR S id=none:=by
   unfold ZBR
   rw [List.findIdx?_eq_none_iff]
   intro x hx
   obtain ⟨j,hj,rfl⟩:=List.mem_iff_getElem.1 hx
   exact hno j hj (by omega)
  have hq:=hq h1 a1
  rw [ef] at hq
  exact hq
theorem ZDL {id:Int} {n:Nat} (hf:ZBR S id=some n):∃ (hn:n<S.books.length) (x:ZE),ZUw S.books[n] id=some x∧x∈S.books[n]∧x.ID=id∧ZRJ (Zq S n) id=(x,true):=by
 unfold ZBR at hf
 obtain ⟨hn,h1,_⟩:=List.findIdx?_eq_some_iff_getElem.1 hf
 obtain ⟨x,hx⟩:=Option.isSome_iff_exists.1 h1
 have hm:=List.mem_of_find?_eq_some hx
 have he:=List.find?_some hx
 refine ⟨hn,x,hx,hm,by simpa using he,?_⟩
 rw [ZAw (S:=S) (n:=(n:Int)) ⟨Int.natCast_nonneg _,by omega⟩]
 unfold ZRJ
 show (match ZUw S.books[n] id with|none=>(ZYL,false)|some o=>(o,true))=_
 rw [hx]
theorem ZQN {m:Msg} (a:Has k b who c h l) (i:WOk N c.d) (hN:N≤9000) (hw:0≤who∧who<8) (ho:c.outs.length≤500000) {Q:Int→Hp→Prop} (hq:∀ h',Has k b who (ZB9 c who m).1 h' l→Q (ZB9 c who m).2 h'):
 ZA TP 131 [Value.pointer k.p,Value.pointer (some ⟨b,0,none⟩),ZAY.enc m] (cI .i64) h Q:=by
 refine c131 ?_
 unfold F131
 unfold ZB9 at hq
 refine ZD (fun e=>?_) fun e=>?_
 ·rw [if_pos (by simpa using e)] at hq
  exact ZTo a i hN hw ho hq
 rw [if_neg (by simpa using e)] at hq
 refine ⟨by decide,by decide,?_⟩
 refine a.new (vs:=[Value.int .i64 0]) fun k1 h1 a1=>?_
 obtain ⟨C,wc,D1,o1,w1⟩:=a1
 refine ZZ (cd:=cI .i64) (i:=0) (x:=m.F_0) (vs':=[Value.int .i64 m.F_0]) (o1.pick [2,0,1] 3 (by decide) (by decide)) rfl rfl (Nat.le_refl 1) fun h2 o2=>?_
 have a2:Zt k c.d h2 (Go.Eng.ob k1 [Value.int .i64 m.F_0] 2::C::l):=⟨D1,o2.swap,w1⟩
 dsimp only [ZR,DK.p]
 refine ZF (cd:=cSl) (x:=k.sk) a2.ob (i:=5) rfl ?_
 refine ZLs a2 (fun x hx=>by have:=(i.books x hx).2.2.1; omega) (by have:=i.bl4; omega) fun h3 a3=>?_
 have a3':Has k b who c h3 (Go.Eng.ob k1 [Value.int .i64 m.F_0] 2::l):=⟨C,wc,a3.perm (List.Perm.swap _ _ _)⟩
 have hbl:=i.bl4
 cases hf:ZBR c.d m.F_0 with
 | none=>
   rw [hf] at hq
   exact Zd rfl (hq h3 a3'.drop)
 | some n=>
   rw [hf] at hq
   dsimp only at hq
   obtain ⟨hn,x,hx,hxm,hxi,hR⟩:=ZDL hf
   have hgn:Zq c.d ((n:Nat):Int)=c.d.books[n]:=ZAw (S:=c.d) (n:=(n:Int)) ⟨Int.natCast_nonneg _,by omega⟩
   have hbk:=i.books _ (List.getElem_mem hn)
   rw [hR] at hq
   dsimp only at hq
   refine ZQ (decide_eq_false (by show ¬((n:Nat):Int)<0; omega)) ?_
   obtain ⟨cb,R,q,o4,w4,hld,cl⟩:=a3.book hn
   refine hld ?_
   refine ZJ (cd:=cI .i64) (x:=m.F_0) o4 2 (i:=0) rfl rfl ?_
   refine ZQg o4 w4 (by have:=hbk.2.2.1; omega) fun c5 h5 o5 w5=>?_
   have a5:=cl h5 c5 _ _ o5 w5
   rw [List.set_getElem_self] at a5
   have a5:Has k b who c h5 (Go.Eng.ob k1 [Value.int .i64 m.F_0] 2::l):=⟨C,wc,a5.perm (List.Perm.swap _ _ _)⟩
   rw [←hgn,hR]
   refine a5.ldWho ?_
   refine ZD (fun eo=>?_) fun eo=>?_
   ·rw [if_pos (by simpa using eo)] at hq
    exact hq h5 a5.drop
   rw [if_neg (by simpa using eo)] at hq
   have eo:x.Owner=who:=by simpa using eo
   refine ZF (cd:=cI .i64) (x:=m.F_0) (a5.sub (g:=Go.Eng.ob k1 [Value.int .i64 m.F_0] 2) (by simp)) (i:=0) rfl ?_
   refine a5.setId fun h6 a6=>?_
   refine ZD (fun e8=>?_) fun e8=>?_
   ·rw [if_pos (by simpa using e8)] at hq
    refine ⟨by decide,by decide,by decide,by decide,?_⟩
    exact ZPv (c:={c with id:=m.F_0}) (n:=(n:Int)) (x:=x) a6.drop i hN hw ho (ZBC.2 ⟨Int.natCast_nonneg _,by show ((n:Nat):Int)<c.d.books.length; omega⟩) (by rw [eo]; exact hw) hq
   rw [if_neg (by simpa using e8)] at hq
   obtain ⟨C6,wc6,a6⟩:=a6
   obtain ⟨cb,R,q,o7,w7,hld,cl⟩:=a6.book hn
   refine hld ?_
   refine ZJ (cd:=cI .i64) (x:=m.F_0) o7 3 (i:=0) rfl rfl ?_
   refine ZFM o7 w7 (by have:=hbk.2.2.1; show c.d.books[n].length≤1000; omega) fun c8 h8 o8 w8=>?_
   have a8:=cl h8 c8 _ _ o8 w8
   have a8:Has k b who {c with id:=m.F_0,d:=ZBV c.d (n:Int) (ZBu (Zq c.d (n:Int)) m.F_0)} h8 (Go.Eng.ob k1 [Value.int .i64 m.F_0] 2::l):=⟨C6,wc6,by rw [hgn]; exact a8⟩
   refine a8.ldWho ?_
   refine ZF (cd:=cI .i64) (x:=m.F_0) (a8.sub (g:=Go.Eng.ob k1 [Value.int .i64 m.F_0] 2) (by simp)) (i:=0) rfl ?_
   refine ZBh (ns:=[m.F_0,x.Left]) a8 (by simp) (by show c.outs.length≤_; omega) fun h9 a9=>?_
   exact hq h9 a9.drop
theorem ZV8 {n is:Int} (a:Has k b who c h l) (i:WOk N c.d) {Q:Int→Hp→Prop} (hq:∀ h',Has k b who (ZHG c n is).1 h' l→Q (ZHG c n is).2 h'):
 ZA TP 137 [Value.pointer k.p,Value.pointer (some ⟨b,0,none⟩),Value.int .i64 n,Value.int .i64 is] (cI .i64) h Q:=by
 refine c137 ?_
 unfold F137
 unfold ZHG at hq
 refine a.isBond (ZD (fun e=>?_) fun e=>?_)
 ·rw [if_pos (by simpa using e)] at hq
  exact hq h a
 have e:isBond c.d n=true:=by simpa using e
 rw [if_neg (by rw [e]; simp)] at hq
 refine ZN (fun t h'=>h'=h∧t=decide (is≠0∧is≠1)) ?_ fun J hJ=>?_
 ·rintro t h' ⟨rfl,rfl⟩
  refine ZH (fun hc=>?_) fun hc=>?_
  ·rw [if_pos hc] at hq
   exact hq h' a
  rw [if_neg hc] at hq
  dsimp only [ZR,DK.p]
  refine ZF (cd:=cSl) (x:=k.sb) a.ob (i:=0) rfl ?_
  obtain ⟨_,h0,h1,hx⟩:=ZAv e i.bl
  obtain ⟨C,wc,a⟩:=a
  obtain ⟨cb,R,o1,w1,cl⟩:=a.bonds
  have hlen:=w1.1
  have hbl:=i.bl
  refine ZM w1.row h0 (by omega) fun p hp=>?_
  rw [w1.part_at hp]
  refine Z9 (cd:=Z8) (cf:=cB) o1 rfl rfl w1 hp (i:=n.toNat) (x0:=ZAO c.d n) hx rfl (k:=6) (y:=is==1) (x':=ZWV is (ZAO c.d n)) rfl (by decide) fun c3 h3 o3 w3=>?_
  have a3:Has k b who {c with d:={c.d with bonds:=c.d.bonds.set n.toNat (ZWV is (ZAO c.d n))}} h3 l:=⟨C,wc,cl h3 c3 _ _ o3 w3⟩
  exact a3.setId fun h4 a4=>hq h4 a4
 ·refine ZD (fun e=>hJ _ _ ⟨rfl,?_⟩) fun e=>hJ _ _ ⟨rfl,?_⟩
  ·have e:is≠0:=by simpa using e
   rw [Bool.eq_iff_iff]; simp [e]
  ·have e:is=0:=by simpa using e
   rw [Bool.eq_iff_iff]; simp [e]
end
end Go.Proofs.YtkmniidiifpdgaaGreat
