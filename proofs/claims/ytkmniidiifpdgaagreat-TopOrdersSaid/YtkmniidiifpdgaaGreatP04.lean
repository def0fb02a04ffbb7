/- Made by program: of our texts what this law needs (TopB TopSP TopSL TopSC TopS TopC TopD TopE TopF TopG TopH TopI TopJ TopK TopL TopM TopN TopO ModB TopP TopQ ModC TopR TopT TopU). -/
import Derived.Test.YtkmniidiifpdgaaGreatP03
import Derived.Test.YtkmniidiifpdgaaGreatChecked
import Derived.Shelf.SlSortCmp.NoneTotal
import Derived.Lib.Overlaps
import Derived.Laws.Externs
set_option linter.unusedVariables false
namespace Go.Proofs.YtkmniidiifpdgaaGreat
open Go.Eng
theorem ZDF {s:Int} {h:Hp} {Q:Bool->Hp->Prop} (hq:Q (ZBZ s) h):ZA TP 218 [Value.int .i64 s] cB h Q:=by refine c218 ?_;unfold F218;unfold ZBZ at hq;exact ZD (λe=>by rwa [e,Bool.true_or] at hq) λe=>by rwa [e,Bool.false_or] at hq
theorem ZHQ {s:Int}:ZBZ s=true↔s=1\/s=2:=by simp [ZBZ]
theorem ZJO {s:Int} {h:Hp} {Q:Int->Hp->Prop} (hq:Q (ZBg s) h):ZA TP 330 [Value.int .i64 s] (cI .i64) h Q:=by
 refine c330 ?_;unfold F330;refine ZDF (ZD (λe=>?_) λe=>?_)
 .have e:ZBZ s=false:=by simpa using e
  unfold ZBg at hq;rwa [e] at hq
 .have e:ZBZ s=true:=by simpa using e
  unfold ZBg at hq;rw [if_pos e] at hq;rw [w64 (by rcases ZHQ.1 e with h|h<;>omega) (by rcases ZHQ.1 e with h|h<;>omega)];exact hq
theorem ZKk {s a b:Int} {h:Hp} {Q:Bool→Hp→Prop} (hq:Q (ZAD s a b) h):ZA TP 102 [Value.int .i64 s,Value.int .i64 a,Value.int .i64 b] cB h Q:=by
 refine c102 ?_;unfold F102;unfold ZAD at hq;refine ZD (λe1=>?_) λe1=>?_
 .refine ZD (λe2=>?_) λe2=>?_
  .rw [e1,e2] at hq; exact hq
  .rw [e1,e2] at hq;refine ZD (λe3=>?_) λe3=>?_
   .rw [e3] at hq; simpa using hq
   .rw [e3] at hq; simpa using hq
 .rw [e1] at hq;refine ZD (λe3=>?_) λe3=>?_
  .rw [e3] at hq; simpa using hq
  .rw [e3] at hq; simpa using hq
theorem ZSs {s a b:Int} {h:Hp} {Q:Bool->Hp->Prop} (hq:Q (ZKz s a b) h):ZA TP 382 [Value.int .i64 s,Value.int .i64 a,Value.int .i64 b] cB h Q:=by
 refine c382 ?_;unfold F382;unfold ZKz at hq;refine ZDF (ZD (λe=>?_) λe=>?_)
 .refine ZKk ?_;rw [e] at hq; simpa using hq
 .rw [e] at hq; simpa using hq
theorem ZMb {n a b:Int} {h:Hp} {Q:Bool->Hp->Prop} (hq:Q (decide (a<=n/\n<=b)) h):ZB (decide (n>=a)) (Q (decide (n<=b)) h) (Q false h):=by
 refine ZJ (λe=>?_) λe=>?_
 .rwa [show decide (a<=n/\n<=b)=decide (n<=b) from decide_eq_decide.2 (by omega)] at hq
 .rwa [decide_eq_false (by omega)] at hq
theorem ZWL {n a b:Int} {h:Hp} {Q:Bool->Hp->Prop} (hq:Q (decide (a<=n/\n<=b)) h):ZA TP 195 [Value.int .i64 n,Value.int .i64 a,Value.int .i64 b] cB h Q:=by refine c195 ?_;unfold F195;exact ZMb hq
theorem ZNG {b:Bond} {p:Int} {h:Hp} (ht:b.Tick≠0) {Q:Int->Hp->Prop} (hq:Q (ZDx b p) h):ZA TP 206 [ZAB.enc b,Value.int .i64 p] (cI .i64) h Q:=by
 refine c206 ?_;unfold F206;unfold ZDx at hq;refine ZWL (ZD (λe=>?_) λe=>⟨ht,ZD (λe2=>?_) λe2=>?_⟩)
 .have e:¬(b.Low<=p/\p<=b.High):=λh=>by rw [decide_eq_true h] at e; cases e
  rwa [if_neg e] at hq
 .have e:b.Low<=p/\p<=b.High:=by simpa using e
  have e2:¬p.tmod b.Tick=0:=by simpa using e2
  rwa [if_pos e,if_neg e2] at hq
 .have e:b.Low<=p/\p<=b.High:=by simpa using e
  have e2:p.tmod b.Tick=0:=by simpa using e2
  rwa [if_pos e,if_pos e2] at hq
theorem ZRl {b:Bond} {p:Int} {h:Hp} (ht:b.Lot≠0) {Q:Int->Hp->Prop} (hq:Q (ZTa b p) h):ZA TP 219 [ZAB.enc b,Value.int .i64 p] (cI .i64) h Q:=by
 refine c219 ?_;unfold F219;unfold ZTa at hq;refine ZWL (ZD (λe=>?_) λe=>⟨ht,ZD (λe2=>?_) λe2=>?_⟩)
 .have e:¬(b.Min<=p/\p<=b.Max):=λh=>by rw [decide_eq_true h] at e; cases e
  rwa [if_neg e] at hq
 .have e:b.Min<=p/\p<=b.Max:=by simpa using e
  have e2:¬p.tmod b.Lot=0:=by simpa using e2
  rwa [if_pos e,if_neg e2] at hq
 .have e:b.Min<=p/\p<=b.Max:=by simpa using e
  have e2:p.tmod b.Lot=0:=by simpa using e2
  rwa [if_pos e,if_pos e2] at hq
theorem ZN2 {b:Bond} {p q:Int} {h:Hp} (ht:b.Tick≠0) (hl:b.Lot≠0) {Q:Int→Hp→Prop} (hq:Q (ZHj b p q) h):ZA TP 279 [ZAB.enc b,Value.int .i64 p,Value.int .i64 q] (cI .i64) h Q:=by
 refine c279 ?_;unfold F279;unfold ZHj at hq;refine ZD (λe=>?_) λe=>?_
 .rwa [if_pos e] at hq
 .rw [if_neg (by rw [e]; simp)] at hq;refine ZNG ht (ZD (λe2=>?_) λe2=>?_)
  .have e2:ZDx b p≠0:=by simpa using e2
   rwa [if_pos e2] at hq
  .have e2:¬ZDx b p≠0:=by simpa using e2
   rw [if_neg e2] at hq;exact ZRl hl hq
theorem ZOw {x:ZE} {h:Hp} {Q:Bool->Hp->Prop} (hq:Q (Zn x) h):ZA TP 373 [ZK.enc x] cB h Q:=by
 refine c373 ?_;unfold F373;unfold Zn at hq;have e1:∀ a:Int,decide (1<=a)=decide (a>=1):=λ_=>rfl;refine ZD (λe1=>ZD (λe2=>ZD (λe3=>ZD (λe4=>ZD (λe5=>ZD (λe6=>ZD (λe7=>?_) λe=>?_) λe=>?_) λe=>?_) λe=>?_) λe=>?_) λe=>?_) λe=>?_;all_goals simp only [ge_iff_le,decide_eq_true_eq,decide_eq_false_iff_not] at*
 all_goals simp only [*,decide_true,decide_false,Bool.true_and,Bool.false_and] at hq
 .exact ZDF hq
 all_goals exact hq
def ZAZ (cd:Cdc) (e:TypeId) (p:Option Addr) (xs:List cd.T) (c:Hp):Prop:=
 ∃ (b:Nat) (sl:Sl) (d:Hp),p=some ⟨b,0,none⟩/\On c [ob b [sv sl] e,d]/\Own cd d sl xs
theorem ZAZ.close {cd:Cdc} {e:TypeId} {b:Nat} {sl:Sl} {d h:Hp} {l:List Hp} {xs:List cd.T} (o:On h (ob b [sv sl] e::d::l)) (w:Own cd d sl xs):∃ c,On h (c::l)/\ZAZ cd e (some ⟨b,0,none⟩) xs c:=by obtain ⟨o6,o7⟩:=On.joined (cs:=[ob b [sv sl] e,d]) (l:=l) o;exact ⟨_,o6,b,sl,d,rfl,o7,w⟩
theorem ZAZ.new {cd:Cdc} {e:TypeId} {k:Nat} {h:Hp} {l:List Hp} (o:On h (ob k [Value.slice none 0 0] e::l)):∃ c,On h (c::l)/\ZAZ cd e (some ⟨k,0,none⟩) [] c:=
 ZAZ.close (sl:=⟨none,0,0⟩) o.emp.swap (Own.nil _)
theorem ZAZ.some {cd:Cdc} {e:TypeId} {p:Option Addr} {xs:List cd.T} {c:Hp} (w:ZAZ cd e p xs c):∃ b,p=some ⟨b,0,none⟩:=by obtain ⟨b,_,_,e,_⟩:=w;exact ⟨b,e⟩
theorem ZAk {α:Type} {φ:α->Bool} {l:List α} {i:Nat} (h:l.findIdx? φ=some i):∃ x,l[i]?=some x/\l.find? φ=some x/\φ x=true/\i<l.length/\l.eraseP φ=l.take i++l.drop (i+1):=by
 obtain ⟨hi,h1,h2⟩:=List.findIdx?_eq_some_iff_getElem.1 h;have hs:l=l.take i++l[i]::l.drop (i+1):=by rw [<-List.drop_eq_getElem_cons hi,List.take_append_drop]
 have hno:∀ b∈l.take i,¬φ b=true:=by intro b hb;obtain ⟨j,hj,rfl⟩:=List.mem_take_iff_getElem.1 hb;exact h2 j (by omega)
 refine ⟨l[i],List.getElem?_eq_getElem hi,?_,h1,hi,?_⟩
 .rw [List.find?_eq_some_iff_append];exact ⟨h1,l.take i,l.drop (i+1),hs,λa ha=>by have:=hno a ha; simpa using this⟩
 .exact List.eraseP_eq_iff.2 (.inr ⟨l[i],l.take i,l.drop (i+1),hno,h1,hs,rfl⟩)
theorem ZCL {α:Type} {φ:α->Bool} {l:List α} (h:l.findIdx? φ=none):l.find? φ=none/\l.eraseP φ=l:=by have:=List.findIdx?_eq_none_iff.1 h;exact ⟨List.find?_eq_none.2 λx hx=>by rw [this x hx]; simp,List.eraseP_of_forall_not λx hx=>by rw [this x hx]; simp⟩
def ZZm:ZE:=⟨0,0,0,0,0,0⟩
def ZO8 (l:List ZE) (id:Int):ZE×Bool:=match ZQB l id with
 | none=>(ZZm,false)
 | some o=>(o,true)
abbrev Zk:=ZAZ ZK 147
section
variable {p:Option Addr} {xs:List ZE} {c h:Hp} {l:List Hp} {id:Int}
theorem ZSe (o:On h l) {Q:Option Addr->Hp->Prop} (hq:∀ p c h',On h' (c::l)->Zk p [] c->Q p h'):ZA TP 41 [] cP h Q:=by refine c41 ?_;unfold F41;refine ZH o λk h1 o1=>?_;obtain ⟨c,o2,w⟩:=ZAZ.new (cd:=ZK) o1;exact hq _ c h1 o2 w
theorem ZJX (o:On h (c::l)) (w:Zk p xs c) (hl:xs.length<=1000) {Q:Int->Hp->Prop} (hq:∀ c' h',On h' (c'::l)->Zk p xs c'->Q (ZO1 (xs.findIdx? λo=>o.ID==id)) h'):
 ZA TP 145 [Value.pointer p,Value.int .i64 id] (cI .i64) h Q:=by
 obtain ⟨b,sl,d,rfl,oc,wd⟩:=w;refine c145 ?_;unfold F145;refine ZH (o.split oc) λk1 h1 o1=>?_;refine ZT rfl ?_;dsimp only [ZR];refine ZI (x:=sl) o1 1 rfl rfl ?_;refine ZG5 (f:=⟨229,#[],#[.pointer (some ⟨k1,0,none⟩)]⟩) (ZY6 (k0:=k1) (id:=id)) o1 (by simp) (g:=d) (by simp) wd.row (by omega) λh2 o2=>?_;obtain ⟨c2,o3,w3⟩:=ZAZ.close o2.tail wd;exact hq c2 h2 o3 w3
theorem ZQp (o:On h (c::l)) (w:Zk p xs c) (hl:xs.length≤1000) {Q:ZE×Bool→Hp→Prop} (hq:∀ c' h',On h' (c'::l)→Zk p xs c'→Q (ZO8 xs id) h'):
 ZA TP 203 [Value.pointer p,Value.int .i64 id] (ZW [ZK,cB]) h Q:=by
 refine c203 ?_;unfold F203;refine ZJX o w hl λc1 h1 o1 w1=>?_;have hq2:=hq c1 h1 o1 w1;clear hq;unfold ZO8 ZQB at hq2;cases hi:xs.findIdx? λo=>o.ID==id with
 | none=>
   rw [(ZCL hi).1] at hq2;exact Zh rfl hq2
 | some i=>
   obtain ⟨x,hx,hf,_,hlt,_⟩:=ZAk hi;rw [hf] at hq2;obtain ⟨b,sl,d,rfl,oc,wd⟩:=w1;refine ZT (decide_eq_false (by show ¬((i:Nat):Int)<0; omega)) ?_;dsimp only [ZR];have o2:=o1.split oc;refine ZI (x:=sl) o2 0 rfl rfl ?_;exact ZL wd.row (Int.natCast_nonneg i) (by omega) λa ha=>ZO wd.row (o2.mem (by simp)) rfl ha (i:=i) hx (by rfl) hq2
theorem ZFu (o:On h (c::l)) (w:Zk p xs c) (hl:xs.length≤1000) {Q:ZE×Bool→Hp→Prop} (hq:∀ c' h',On h' (c'::l)→Zk p (ZBC xs id) c'→Q (ZO8 xs id) h'):
 ZA TP 85 [Value.pointer p,Value.int .i64 id] (ZW [ZK,cB]) h Q:=by
 refine c85 ?_;unfold F85;refine ZJX o w hl λc1 h1 o1 w1=>?_;unfold ZBC ZO8 ZQB at hq;cases hi:xs.findIdx? λo=>o.ID==id with
 | none=>
   rw [(ZCL hi).1,(ZCL hi).2] at hq;exact Zh rfl (hq c1 h1 o1 w1)
 | some i=>
   obtain ⟨x,hx,hf,_,hlt,he⟩:=ZAk hi;rw [hf,he] at hq;obtain ⟨b,sl,d,rfl,oc,wd⟩:=w1;refine ZT (decide_eq_false (by show ¬((i:Nat):Int)<0; omega)) ?_;dsimp only [ZR];have o2:=o1.split oc;refine ZI (x:=sl) o2 0 rfl rfl ?_;refine ZL wd.row (Int.natCast_nonneg i) (by omega) λa ha=>ZO wd.row (o2.mem (by simp)) rfl ha (i:=i) hx (by rfl) ?_;refine ZI (x:=sl) o2 0 rfl rfl ?_;show ZA TP 146 [Value.slice sl.a sl.len sl.cap,Value.int .i64 (i:Int),Value.int .i64 (IntKind.i64.wrap ((i:Int)+1))] cSl h1 _;rw [ZAQ (by omega)];refine ZPN o2.swap wd (i:=i) (j:=i+1) (by omega) (by omega) λs3 d3 h3 o3 w3=>?_;refine ZZ (cd:=cSl) (i:=0) (x:=s3) (vs':=[sv s3]) o3.swap rfl rfl (Nat.le_refl 1) λh4 o4=>?_;obtain ⟨c5,o5,w5⟩:=ZAZ.close o4 w3;exact hq c5 h4 o5 w5
theorem ZNl {left:Int} (o:On h (c::l)) (w:Zk p xs c) (hl:xs.length≤1000) {Q:Int→Hp→Prop} (hq:∀ c' h',On h' (c'::l)→Zk p (ZDD xs id left).1 c'→Q (ZDD xs id left).2 h'):
 ZA TP 280 [Value.pointer p,Value.int .i64 id,Value.int .i64 left] (cI .i64) h Q:=by
 refine c280 ?_;unfold F280;refine ZT (by obtain ⟨b,rfl⟩:=w.some; rfl) ?_;refine ZJX o w hl λc1 h1 o1 w1=>?_;unfold ZDD at hq;cases hi:xs.findIdx? λo=>o.ID==id with
 | none=>
   rw [hi] at hq;exact Zh rfl (hq c1 h1 o1 w1)
 | some i=>
   obtain ⟨x,hx,hf,_,hlt,he⟩:=ZAk hi;rw [hi] at hq;dsimp only at hq;rw [hx] at hq;dsimp only at hq;have w1':=w1;obtain ⟨b,sl,d,rfl,oc,wd⟩:=w1;refine ZT (decide_eq_false (by show ¬((i:Nat):Int)<0; omega)) ?_;dsimp only [ZR];have o2:=o1.split oc;refine ZN (λt h'=>h'=h1/\t=decide (left<1\/x.Left<left)) ?_ λJ hJ=>?_
   .rintro t h' ⟨rfl,rfl⟩;refine ZJ (λe=>?_) λe=>?_
    .rw [if_pos e] at hq;exact hq c1 h' o1 w1'
    .rw [if_neg e] at hq;refine ZI (x:=sl) o2 0 rfl rfl ?_;refine ZL wd.row (Int.natCast_nonneg i) (by omega) λa ha=>?_;have ea:∀ q:Addr,(⟨q.block,q.off+5,none⟩:Addr)=⟨q.block,q.off+5,none⟩:=λ_=>rfl;have hsp:a.spot=none:=by have:=wd.2;rw [ha] at this;exact this.1
     have e5:(⟨(a.add (((i:Int)).toNat*6)).block,(a.add (((i:Int)).toNat*6)).off+5,none⟩:Addr)=(a.add (i*6)).add 5:=by rw [Int.toNat_natCast,ZBH hsp,ZCY]
     show ZV (cI .i64) ⟨(a.add (((i:Int)).toNat*6)).block,(a.add (((i:Int)).toNat*6)).off+5,none⟩ left h' _;rw [e5];refine ZAC (cd:=ZK) (cf:=cI .i64) o2.swap rfl rfl wd ha (i:=i) (x0:=x) hx (m:=i*6) rfl (k:=5) (y:=left) (x':=ZAS x left) rfl (Nat.le_refl 6) λc3 h3 o3 w3=>?_;obtain ⟨c5,o5,w5⟩:=ZAZ.close o3.swap w3;exact hq c5 h3 o5 w5
   .refine ZJ (λe=>hJ _ _ ⟨rfl,(decide_eq_true (.inl e)).symm⟩) λe=>?_;refine ZI (x:=sl) o2 0 rfl rfl ?_;refine ZL wd.row (Int.natCast_nonneg i) (by omega) λa ha=>?_;have hsp:a.spot=none:=by have:=wd.2;rw [ha] at this;exact this.1
    have e5:(⟨(a.add (((i:Int)).toNat*6)).block,(a.add (((i:Int)).toNat*6)).off+5,none⟩:Addr)=(a.add (i*6)).add 5:=by rw [Int.toNat_natCast,ZBH hsp,ZCY]
    show ZC (cI .i64) ⟨(a.add (((i:Int)).toNat*6)).block,(a.add (((i:Int)).toNat*6)).off+5,none⟩ h1 _;rw [e5];refine Zg (cd:=ZK) (cf:=cI .i64) wd.row (o2.mem (by simp)) rfl ha (i:=i) hx rfl (k:=5) (y:=x.Left) rfl ?_;exact hJ _ _ ⟨rfl,decide_eq_decide.2 (by omega)⟩
theorem ZXH (hc:c.sub h) (w:Zk p xs c) {Q:Int->Hp->Prop} (hq:Q (xs.length:Int) h):ZA TP 369 [Value.pointer p] (cI .i64) h Q:=by obtain ⟨b,sl,d,rfl,oc,wd⟩:=w;refine c369 ?_;unfold F369;refine ZT rfl ?_;refine ZF (Hp.sub_trans (oc.get (i:=0) rfl) hc) (x:=sl) rfl ?_;rw [wd.1];exact hq
theorem ZSU {x:ZE} (o:On h (c::l)) (w:Zk p xs c) (hl:xs.length≤1000) {Q:Int→Hp→Prop} (hq:∀ c' h',On h' (c'::l)→Zk p (ZLu xs x).1 c'→Q (ZLu xs x).2 h'):
 ZA TP 357 [Value.pointer p,ZK.enc x] (cI .i64) h Q:=by
 obtain ⟨b,sl,d,rfl,oc,wd⟩:=w;refine c357 ?_;unfold F357;refine ZH (o.split oc) λk1 h1 o1=>?_;dsimp only [ZR];have hlen:=wd.1;unfold ZLu at hq;refine ZN (λt h'=>On h' (ob k1 (ZK.enc x).cells.toList 74::ob b [sv sl] 147::d::l)/\t=decide (Zn x=false\/xs.any (λy=>y.ID==x.ID||y.Seq==x.Seq)=true)) ?_ λJ hJ=>?_
 .rintro t h2 ⟨o2,rfl⟩;refine ZJ (λe=>?_) λe=>?_
  .rw [if_pos e] at hq;obtain ⟨c3,o3,w3⟩:=ZAZ.close o2.tail wd;exact hq c3 h2 o3 w3
  .rw [if_neg e] at hq;refine ZI (x:=sl) o2 1 rfl rfl ?_;refine ZJ (λe2=>?_) λe2=>?_
   .rw [if_pos (by omega)] at hq;obtain ⟨c3,o3,w3⟩:=ZAZ.close o2.tail wd;exact hq c3 h2 o3 w3
   .rw [if_neg (by omega)] at hq;refine ZI (x:=sl) o2 1 rfl rfl ?_;refine ZI (cd:=ZK) (x:=x) o2 0 rfl rfl ?_;refine ZH o2 λk2 h3 o3=>?_;have r3:Row ZK (ob k2 (ZK.enc x).cells.toList 74) ⟨some ⟨k2,0,none⟩,1,1⟩ [x]:=Ze rfl rfl;have o3':On h3 (d::ob k2 (ZK.enc x).cells.toList 74::ob b [sv sl] 147::l):=o3.pick [3,0,2] 4 (by decide) (by decide);refine ZU (g:=ob k2 (ZK.enc x).cells.toList 74) (s:=sl) (t:=⟨some ⟨k2,0,none⟩,1,1⟩) o3' rfl wd (by decide) r3 (o3'.mem (by simp)) (by unfold ZAR; simp; omega) λd4 p4 n4 m4 h4 o4 w4=>?_;have o4':On h4 (ob b [sv sl] 147::d4::l):=o4.pick [2,0] 3 (by decide) (by decide);refine ZZ (cd:=cSl) (i:=0) (x:=(⟨p4,n4,m4⟩:Sl)) (vs':=[sv ⟨p4,n4,m4⟩]) o4' rfl rfl (Nat.le_refl 1) λh5 o5=>?_;obtain ⟨c6,o6,w6⟩:=ZAZ.close o5 w4;exact hq c6 h5 o6 w6
 .refine ZT rfl ?_;refine ZI (cd:=ZK) (x:=x) o1 0 rfl rfl ?_;refine ZOw (ZD (λe=>hJ _ _ ⟨o1,?_⟩) λe=>?_)
  .have e:Zn x=false:=by simpa using e
   exact (decide_eq_true (.inl e)).symm
  .have e:Zn x=true:=by simpa using e
   have o1':On h1 (ob k1 (ZK.enc x).cells.toList 74::ob b [sv sl] 147::d::l):=o1;refine ZI (x:=sl) o1 1 rfl rfl ?_;refine ZGV (f:=⟨375,#[],#[.pointer (some ⟨k1,0,none⟩)]⟩) (ZY4 (k0:=k1) (y:=x)) o1' (λp hp=>by rw [List.mem_singleton.1 hp]; exact List.mem_cons_self) (g:=d) (by simp) wd.row (by omega) λh2 o2=>?_;refine hJ _ _ ⟨o2,?_⟩;rw [Bool.eq_iff_iff];simp [e]
end
def ZGi (s:Int) (x:ZE):ZE:={x with Side:=s}
theorem ZGw {s:Int} {x:ZE} (h:x.Side=s):ZGi s x=x:=by subst h; rfl
theorem ZIp (s:Int) (a b:ZE):ZNu (ZGi s a) (ZGi s b)<0↔(s=1∧b.Price<a.Price)∨(s=2∧a.Price<b.Price)∨(¬(s=1∧a.Price<b.Price)∧¬(s=2∧b.Price<a.Price)∧a.Seq<b.Seq):=by
 unfold ZNu ZAD ZGi;simp only [Bool.or_eq_true,Bool.and_eq_true,beq_iff_eq,decide_eq_true_eq];split
 .simp only [show (-1:Int)<0 by decide,true_iff]; omega
 ·split
  .simp only [show ¬(1:Int)<0 by decide,false_iff]; omega
  .split
   .simp only [show (-1:Int)<0 by decide,true_iff]; omega
   .split
    .simp only [show ¬(1:Int)<0 by decide,false_iff]; omega
    .simp only [show ¬(0:Int)<0 by decide,false_iff]; omega
def Lo (s:Int) (a b:ZE):Prop:=¬ZNu (ZGi s b) (ZGi s a)<0
theorem Lo.trans {s:Int} {a b c:ZE} (h:Lo s a b) (g:Lo s b c):Lo s a c:=by unfold Lo at*;rw [ZIp] at*;omega
theorem Lo.anti {s:Int} {a b:ZE} (h:Lo s a b) (g:Lo s b a):a.Seq=b.Seq:=by unfold Lo at*;rw [ZIp] at*;omega
theorem ZaZ {s:Int} {o:ZE} (ho:o.Side=s):∀ {l:List ZE},(∀ x∈l,x.Side=s)→l.Pairwise (Lo s)→(ZSi o l).Pairwise (Lo s)∧(ZSi o l).Perm (o::l)
 | [],_,_=>⟨by simp [ZSi],List.Perm.refl _⟩
 | x::l,hs,hp=>by
   have hp':=List.pairwise_cons.1 hp;have hx:x.Side=s:=hs x (by simp);unfold ZSi;split
   .rename_i e;refine ⟨List.pairwise_cons.2 ⟨λz hz=>?_,hp⟩,List.Perm.refl _⟩;have e:ZNu (ZGi s o) (ZGi s x)<0:=by rw [ZGw ho,ZGw hx]; exact e
    have hox:Lo s o x:=by unfold Lo;rw [ZIp] at*;omega
    rcases List.mem_cons.1 hz with rfl|hz
    .exact hox
    .exact hox.trans (hp'.1 z hz)
   .rename_i e;have e:Lo s x o:=by unfold Lo;rw [ZGw ho,ZGw hx]; exact e
    have ih:=ZaZ ho (λy hy=>hs y (by simp [hy])) hp'.2;refine ⟨List.pairwise_cons.2 ⟨λz hz=>?_,ih.1⟩,(List.Perm.cons x ih.2).trans (List.Perm.swap o x l)⟩;rcases List.mem_cons.1 (ih.2.mem_iff.1 hz) with rfl|hz
    .exact e
    .exact hp'.1 z hz
theorem ZR9 {s:Int}:∀ {l:List ZE},(∀ x∈l,x.Side=s)->(ZJc l).Pairwise (Lo s)/\(ZJc l).Perm l
 | [],_=>⟨List.Pairwise.nil,List.Perm.refl _⟩
 | x::l,h=>by have ih:=ZR9 λy hy=>h y (List.mem_cons_of_mem _ hy);have h2:=ZaZ (h x (by simp)) (λy hy=>h y (by simp [ih.2.mem_iff.1 hy])) ih.1;exact ⟨h2.1,h2.2.trans (List.Perm.cons x ih.2)⟩
theorem ZX4 {l:List ZE} (hn:(l.map fun x=>x.Seq).Nodup):∀ a∈l,∀ b∈l,a.Seq=b.Seq→a=b:=by
 induction l with
 | nil=>intro a ha; cases ha
 | cons x l ih=>
   rw [List.map_cons,List.nodup_cons] at hn;intro a ha b hb e;rcases List.mem_cons.1 ha with h1|h1<;>rcases List.mem_cons.1 hb with h2|h2
   .rw [h1,h2]
   .exact absurd (List.mem_map.2 ⟨b,h2,by rw [<-e,h1]⟩) hn.1
   .exact absurd (List.mem_map.2 ⟨a,h1,by rw [e,h2]⟩) hn.1
   .exact ih hn.2 a h1 b h2 e
theorem ZUl {s:Int} {xs ys:List ZE} (hs:∀ x∈xs,x.Side=s) (hn:(xs.map λx=>x.Seq).Nodup) (hp:ys.Perm xs) (hy:ys.Pairwise (Lo s)):ys=ZJc xs:=by have h:=ZR9 hs;refine List.Perm.eq_of_pairwise (le:=Lo s) (λa b ha hb h1 h2=>?_) hy h.1 (hp.trans h.2.symm);exact ZX4 hn a (hp.mem_iff.1 ha) b (h.2.mem_iff.1 hb) (h1.anti h2)
end Go.Proofs.YtkmniidiifpdgaaGreat
namespace Go.Proofs.YtkmniidiifpdgaaGreat
open Go.Shelf
def ZMa:Go.Shelf.Ren:=⟨λ|6=>57|15=>101|14=>100|28=>178|29=>179|20=>170|21=>171|22=>172|23=>173|24=>174|25=>175|26=>176|27=>177|46=>256|47=>257|48=>258|49=>259|50=>260|57=>313|n=>n,λ|22=>71|24=>74|25=>149|3=>3|39=>142|0=>0|53=>271|55=>48|4=>4|46=>265|45=>264|50=>248|5=>5|9=>9|66=>348|70=>352|76=>403|77=>404|n=>n,λ|n=>n⟩
theorem ZNm:Go.Proofs.SlLaysF0.n6 Tryz.prog ZMa:={
 mixed:=by kernel_rfl,
 f6:=⟨Tryz.f57.name,by decide,Tryz.func57.trans (congrArg some (by kernel_rfl))⟩,
 f14:=⟨Tryz.f100.name,by decide,Tryz.func100.trans (congrArg some (by kernel_rfl))⟩,
 f15:=Tryz.func101.trans (congrArg some (by kernel_rfl)),
 f20:=⟨Tryz.f170.name,by decide,Tryz.func170.trans (congrArg some (by kernel_rfl))⟩,
 f21:=⟨Tryz.f171.name,by decide,Tryz.func171.trans (congrArg some (by kernel_rfl))⟩,
 f22:=⟨Tryz.f172.name,by decide,Tryz.func172.trans (congrArg some (by kernel_rfl))⟩,
 f23:=⟨Tryz.f173.name,by decide,Tryz.func173.trans (congrArg some (by kernel_rfl))⟩,
 f24:=⟨Tryz.f174.name,by decide,Tryz.func174.trans (congrArg some (by kernel_rfl))⟩,
 f25:=⟨Tryz.f175.name,by decide,Tryz.func175.trans (congrArg some (by kernel_rfl))⟩,
 f26:=⟨Tryz.f176.name,by decide,Tryz.func176.trans (congrArg some (by kernel_rfl))⟩,
 f27:=⟨Tryz.f177.name,by decide,Tryz.func177.trans (congrArg some (by kernel_rfl))⟩,
 f28:=Tryz.func178.trans (congrArg some (by kernel_rfl)),
 f29:=Tryz.func179.trans (congrArg some (by kernel_rfl)),
 f46:=⟨Tryz.f256.name,by decide,Tryz.func256.trans (congrArg some (by kernel_rfl))⟩,
 f47:=Tryz.func257.trans (congrArg some (by kernel_rfl)),
 f48:=Tryz.func258.trans (congrArg some (by kernel_rfl)),
 f49:=⟨Tryz.f259.name,by decide,Tryz.func259.trans (congrArg some (by kernel_rfl))⟩,
 f50:=⟨Tryz.f260.name,by decide,Tryz.func260.trans (congrArg some (by kernel_rfl))⟩,
 f57:=⟨Tryz.f313.name,by decide,Tryz.func313.trans (congrArg some (by kernel_rfl))⟩,
 t0:=Tryz.underlying0,
 a0:=Tryz.isAgg0,
 z0:=Tryz.sizeOf0,
 v0:=Tryz.zeroValue0,
 t3:=Tryz.underlying3,
 a3:=Tryz.isAgg3,
 z3:=Tryz.sizeOf3,
 v3:=Tryz.zeroValue3,
 t4:=Tryz.underlying4,
 a4:=Tryz.isAgg4,
 z4:=Tryz.sizeOf4,
 v4:=Tryz.zeroValue4,
 t5:=Tryz.underlying5,
 a5:=Tryz.isAgg5,
 z5:=Tryz.sizeOf5,
 v5:=Tryz.zeroValue5,
 t9:=Tryz.underlying9,
 a9:=Tryz.isAgg9,
 z9:=Tryz.sizeOf9,
 v9:=Tryz.zeroValue9,
 t22:=Tryz.underlying71,
 a22:=Tryz.isAgg71,
 z22:=Tryz.sizeOf71,
 v22:=Tryz.zeroValue71,
 t25:=Tryz.underlying149,
 a25:=Tryz.isAgg149,
 z25:=Tryz.sizeOf149,
 v25:=Tryz.zeroValue149,
 t39:=Tryz.underlying142,
 a39:=Tryz.isAgg142,
 z39:=Tryz.sizeOf142,
 v39:=Tryz.zeroValue142,
 t45:=Tryz.underlying264,
 a45:=Tryz.isAgg264,
 z45:=Tryz.sizeOf264,
 v45:=Tryz.zeroValue264,
 t46:=Tryz.underlying265,
 a46:=Tryz.isAgg265,
 z46:=Tryz.sizeOf265,
 v46:=Tryz.zeroValue265,
 t50:=Tryz.underlying248,
 a50:=Tryz.isAgg248,
 z50:=Tryz.sizeOf248,
 v50:=Tryz.zeroValue248,
 t53:=Tryz.underlying271,
 a53:=Tryz.isAgg271,
 z53:=Tryz.sizeOf271,
 v53:=Tryz.zeroValue271,
 t55:=Tryz.underlying48,
 a55:=Tryz.isAgg48,
 z55:=Tryz.sizeOf48,
 v55:=Tryz.zeroValue48,
 t66:=Tryz.underlying348,
 a66:=Tryz.isAgg348,
 z66:=Tryz.sizeOf348,
 v66:=Tryz.zeroValue348,
 t70:=Tryz.underlying352,
 a70:=Tryz.isAgg352,
 z70:=Tryz.sizeOf352,
 v70:=Tryz.zeroValue352,
 t76:=Tryz.underlying403,
 a76:=Tryz.isAgg403,
 z76:=Tryz.sizeOf403,
 v76:=Tryz.zeroValue403,
 t77:=Tryz.underlying404,
 a77:=Tryz.isAgg404,
 z77:=Tryz.sizeOf404,
 v77:=Tryz.zeroValue404
}
end Go.Proofs.YtkmniidiifpdgaaGreat
namespace Go.Proofs.YtkmniidiifpdgaaGreat
open Go.Eng Go.Shelf Go.RowKit Go.Lib Go.Sort Go.Proofs
theorem ZMn (x y:ZE):ZNu x y=if (x.Side=1/\y.Price<x.Price)\/(x.Side=2/\x.Price<y.Price) then -1 else if (x.Side=1/\x.Price<y.Price)\/(x.Side=2/\y.Price<x.Price) then 1 else if x.Seq<y.Seq then -1 else if y.Seq<x.Seq then 1 else 0:=by unfold ZNu ZAD;simp only [Bool.or_eq_true,Bool.and_eq_true,beq_iff_eq,decide_eq_true_eq,gt_iff_lt]
theorem ZSv (x y:ZE) (W:World):Calls Tryz.prog 58 #[.agg #[.int .i64 x.ID,.int .i64 x.Seq,.int .i64 x.Owner,.int .i64 x.Side,.int .i64 x.Price,.int .i64 x.Left],.agg #[.int .i64 y.ID,.int .i64 y.Seq,.int .i64 y.Owner,.int .i64 y.Side,.int .i64 y.Price,.int .i64 y.Left]] W λe w'=>e=.returned (.int .i64 (ZNu x y))/\∃ q os',w'=grow (W.drewN q) os':=by
 go_enter Tryz.func58,Tryz.ntmps58;go_wp2;all_goals go_ret
 all_goals refine ⟨?_,0,_,by rw [alloc_eq_grow,alloc_eq_grow,grow_grow]; rfl⟩
 all_goals first
  | exact congrArg (λk=>Ending.returned (Value.int .i64 k)) (show (-1:Int)=ZNu x y by rw [ZMn]; (repeat' split)<;>omega)
  | exact congrArg (λk=>Ending.returned (Value.int .i64 k)) (show (1:Int)=ZNu x y by rw [ZMn]; (repeat' split)<;>omega)
  | exact congrArg (λk=>Ending.returned (Value.int .i64 k)) (show (0:Int)=ZNu x y by rw [ZMn]; (repeat' split)<;>omega)
end Go.Proofs.YtkmniidiifpdgaaGreat
namespace Go.Proofs.YtkmniidiifpdgaaGreat
open Go.Eng Go.Shelf Go.RowKit Go.Lib Go.Sort Go.Proofs
instance Zac:Inhabited ZE:=⟨⟨0,0,0,0,0,0⟩⟩
def ZZx (s:Int) (x:ZE):List Value:=[.int .i64 x.ID,.int .i64 x.Seq,.int .i64 x.Owner,.int .i64 s,.int .i64 x.Price,.int .i64 x.Left]
def cfS (s:Int) (x y:ZE):Int:=ZNu (ZGi s x) (ZGi s y)
theorem Zad (s:Int):SWO (ltOf (cfS s)) where
 irrefl x:=by unfold ltOf cfS;rw [decide_eq_false_iff_not,ZIp];omega
 trans x y z h1 h2:=by unfold ltOf cfS at*;rw [decide_eq_true_eq,ZIp] at*;omega
 ntrans x y z h1 h2:=by unfold ltOf cfS at*;rw [decide_eq_false_iff_not,ZIp] at*;omega
theorem ZHa {s:Int}:∀ {xs:List ZE},(∀ x∈xs,x.Side=s)->ZG ZK xs=xs.flatMap (ZZx s)
 | [],_=>rfl
 | x::xs,h=>by have hx:x.Side=s:=h x (by simp);rw [ZAx,List.flatMap_cons,ZHa λy hy=>h y (by simp [hy])];congr 1;subst hx;rfl
theorem ZRg {s:Int} {xs:List ZE} {d':Array ZE} (hs:∀ x∈xs,x.Side=s) (hn:(xs.map λx=>x.Seq).Nodup) (hp:PermIn 0 xs.toArray.size xs.toArray d') (ho:SortedIn (ltOf (cfS s)) 0 xs.toArray.size d'):d'.toList=ZJc xs:=by
 have hsz:d'.size=xs.length:=by rw [hp.1]; simp
 refine ZUl hs hn ?_ ?_
 .have h:=hp.2.2;rw [<-hp.1,Array.extract_size,hp.1,Array.extract_size] at h;simpa using h
 .rw [List.pairwise_iff_getElem];intro i j hi hj hij;rw [Array.length_toList] at hi hj;have h:=ho i j (Nat.zero_le _) hij (by simpa [hsz] using hj);rw [getElem!_pos d' j hj,getElem!_pos d' i hi] at h;unfold ltOf cfS at h;rw [decide_eq_false_iff_not] at h;exact h
theorem ZVH {p0:Sl} {xs:List ZE} {s:Int} {d h:Hp} {l:List Hp} (o:On h (d::l)) (w:Own ZK d p0 xs) (hs:∀ x∈xs,x.Side=s) (hn:(xs.map fun x=>x.Seq).Nodup) (hl:xs.length≤1000)
 {Q:Unit->Hp->Prop} (hq:∀ d' h',On h' (d'::l)->Own ZK d' p0 (ZJc xs)->Q () h'):ZA Tryz.prog 57 [Value.slice p0.a p0.len p0.cap,Value.func (Fn.func 58) #[] #[]] (ZW []) h Q:=by
 obtain ⟨pa,plen,pcap⟩:=p0;obtain ⟨hlen,w⟩:=w;dsimp only at hlen w ⊢;cases pa with
 | none=>
   obtain ⟨hc,rfl⟩:=w;have hlen:plen=0:=hlen;subst hlen;intro W fr hw hfr hdj;refine (AnyF.slices_SortFunc_none (P:=Tryz.prog) (ρ:=ZMa) ZNm none pcap (Value.func (Fn.func 58) #[] #[]) W).mono ?_;rintro e w' ⟨rfl,rfl⟩;exact ⟨_,h,rfl,⟨(),rfl,hq d h o ⟨rfl,hc,rfl⟩⟩,hw,hfr,hdj,ZF0.refl _⟩
 | some a=>
   obtain ⟨blk,off,spot⟩:=a;obtain ⟨hsp,pre,rest,ZBo,e,fz,hb,hpre,hroom,hfz⟩:=w;have hsp:spot=none:=hsp;subst hsp;have hpre:pre.length=off:=hpre;rw [ZHa hs] at hb;have hdsz:xs.toArray.size=xs.length:=by simp
   subst hlen;refine ZTN (α:=ZE) (k:=6) (enc:=ZZx s) (d:=xs.toArray) (Good:=λd'=>PermIn 0 xs.toArray.size xs.toArray d'/\SortedIn (ltOf (cfS s)) 0 xs.toArray.size d') (blk:=blk) (off:=off) (pre:=pre) (tail:=rest++ZBo) (e:=e) (fz:=fz) (λ_=>rfl) o hb hpre ?_ ?_ ?_
   .intro j h1 h2;refine hfz j h1 ?_;rw [hdsz] at h2;have hroom:xs.length*6+rest.length=pcap*6:=hroom;show j<off+pcap*6;omega
   .intro W hH hblk;have hc:=AnyQ.slices_SortFunc (P:=Tryz.prog) (ρ:=ZMa) ZNm 6 Tryz.isAgg74 Tryz.sizeOf74 (ZZx s) (λ_=>rfl) (λx v hv=>by simp only [ZZx,List.mem_cons,List.not_mem_nil,or_false] at hv; rcases hv with rfl|rfl|rfl|rfl|rfl|rfl<;>rfl) (cfS s) (Zad s) 58 #[] blk off pcap xs.toArray W
     (enters_of Tryz.func58 (by kernel_rfl) rfl) (λm os dk hdk x y=>ZSv (ZGi s x) (ZGi s y) _) hH hblk (by rw [hdsz]; omega)
    refine hc.mono ?_;rintro ex w' ⟨rfl,d',n,os,h1,h2,rfl⟩;exact ⟨rfl,d',n,os,⟨h1,h2⟩,h1.1,rfl⟩
   .rintro d' c' h' o' hb' ⟨h1,h2⟩ hsz;have hd:=ZRg hs hn h1 h2;refine hq c' h' o' ⟨?_,rfl,pre,rest,ZBo,e,fz,?_,hpre,?_,hfz⟩
    .exact (ZR9 hs).2.length_eq.symm
    .rw [ZHa λx hx=>hs x ((ZR9 hs).2.mem_iff.1 hx),<-hd];exact hb'
    .rw [(ZR9 hs).2.length_eq];exact hroom
theorem ZHw (o:ZE):∀ l:List ZE,(ZSi o l).Perm (o::l)
 | []=>List.Perm.refl _
 | x::l=>by
   unfold ZSi;split
   .exact List.Perm.refl _
   .exact (List.Perm.cons x (ZHw o l)).trans (List.Perm.swap o x l)
theorem ZBj:∀ l:List ZE,(ZJc l).Perm l
 | []=>List.Perm.refl _
 | x::l=>(ZHw x (ZJc l)).trans (List.Perm.cons x (ZBj l))
theorem ZA0 {l:List ZE} {s:Int} {x:ZE}:x∈ZBB l s↔x∈l/\x.Side=s:=by unfold ZBB;rw [(ZBj _).mem_iff,List.mem_filter];simp
theorem ZCm (l:List ZE) (s:Int):(ZBB l s).length<=l.length:=by unfold ZBB;rw [(ZBj _).length_eq];exact List.length_filter_le _ _
def ZDR (l:List ZE):Prop:=(l.map λx=>x.Seq).Nodup
section
variable {p:Option Addr} {xs:List ZE} {c h:Hp} {l:List Hp}
theorem ZFl {s:Int} (o:On h (c::l)) (w:Zk p xs c) (hs:ZDR xs) (hl:xs.length≤1000) {Q:Sl→Hp→Prop} (hq:∀ sl c' d' h',On h' (c'::d'::l)→Zk p xs c'→Own ZK d' sl (ZBB xs s)→Q sl h'):
 ZA TP 20 [Value.pointer p,Value.int .i64 s] cSl h Q:=by
 obtain ⟨b,sl,d,rfl,oc,wd⟩:=w;refine c20 ?_;unfold F20;dsimp only [ZR];refine ZT rfl ?_;have o0:=o.split oc;have hlen:=wd.1;refine ZI (x:=sl) o0 0 rfl rfl ?_;refine Zb (λz h'=>∃ (i:Nat) (dO:Hp),z.2=(i:Int)/\i<=xs.length/\On h' (dO::ob b [sv sl] 147::d::l)/\Own ZK dO z.1 ((xs.take i).filter λx=>x.Side==s)) (λz=>xs.length-z.2.toNat)
  ⟨0,Hp.emp,rfl,Nat.zero_le _,o0.emp,Own.nil _⟩ ?_
 rintro J ⟨z,zi⟩ h1 again ⟨i,dO,hzi,hle,o1,w1⟩
 dsimp only at hzi w1;subst hzi;dsimp only;have hfl:((xs.take i).filter λx=>x.Side==s).length<=i:=Nat.le_trans (List.length_filter_le _ _) (by rw [List.length_take]; omega);refine ZJ (λhlt=>?_) λhge=>?_
 .have hi:i<xs.length:=by omega
  have a0:xs[i]?=some xs[i]:=List.getElem?_eq_getElem hi;generalize xs[i]=x at a0;have ei:IntKind.i64.wrap ((i:Int)+1)=((i+1:Nat):Int):=ZAQ (by omega);rw [ei];have est:(xs.take (i+1)).filter (λx=>x.Side==s)=(xs.take i).filter (λx=>x.Side==s)++if (x.Side==s)=true then [x] else []:=by rw [List.take_add_one,a0,List.filter_append];simp [List.filter_cons]
  refine ZN (λz h'=>∃ dO,On h' (dO::ob b [sv sl] 147::d::l)/\Own ZK dO z ((xs.take (i+1)).filter λx=>x.Side==s)) ?_ λJ2 hJ2=>?_
  .rintro z2 h2 ⟨dO2,o2,w2⟩;exact again _ _ ⟨i+1,dO2,rfl,by omega,o2,w2⟩ (by dsimp only; omega)
  .refine ZL wd.row (Int.natCast_nonneg i) (by omega) λa ha=>ZO wd.row (o1.mem (by simp)) rfl ha (i:=i) a0 (by rfl) ?_;refine ZD (λe=>?_) λe=>?_
   .rw [if_pos e] at est;refine ZH o1 λk2 h2 o2=>?_;have r2:Row ZK (ob k2 (ZK.enc x).cells.toList 74) ⟨some ⟨k2,0,none⟩,1,1⟩ [x]:=Ze rfl rfl;have o2':On h2 (dO::ob k2 (ZK.enc x).cells.toList 74::ob b [sv sl] 147::d::l):=o2.swap;refine ZU (g:=ob k2 (ZK.enc x).cells.toList 74) (s:=z) (t:=⟨some ⟨k2,0,none⟩,1,1⟩) o2' rfl w1 (by decide) r2 (o2'.mem (by simp)) (by unfold ZAR; simp; omega) λd4 p4 n4 m4 h4 o4 w4=>?_;exact hJ2 ⟨p4,n4,m4⟩ h4 ⟨d4,o4.pick [0,2,3] 4 (by decide) (by decide),by rw [est]; exact w4⟩
   .rw [if_neg (by rw [e]; simp),List.append_nil] at est;exact hJ2 z h1 ⟨dO,o1,by rw [est]; exact w1⟩
 .have:i=xs.length:=by omega
  subst this;rw [List.take_length] at w1;have hn:((xs.filter λx=>x.Side==s).map λx=>x.Seq).Nodup:=hs.sublist ((List.filter_sublist ..).map _);refine ZVH (s:=s) o1 w1 (λx hx=>by simpa using (List.mem_filter.1 hx).2) hn (Nat.le_trans (List.length_filter_le _ _) hl) λd2 h2 o2 w2=>?_;obtain ⟨c3,o3,w3⟩:=ZAZ.close (o2.pick [1,2,0] 3 (by decide) (by decide)) wd;exact hq z c3 d2 h2 o3 w3 w2
theorem ZTI {x y:ZE} {how:Int} {Q:Bool->Hp->Prop} (hq:Q (ZFO how x y) h):ZA TP 372 [ZK.enc x,ZK.enc y,Value.int .i64 how] cB h Q:=by refine c372 ?_;unfold F372;unfold ZFO at hq;exact ZD (λe=>by rwa [e,Bool.true_or] at hq) λe=>ZSs (by rwa [e,Bool.false_or] at hq)
theorem ZYf {k0 k1:Nat} {x:ZE} {how:Int}:Clo TP [ob k0 (ZK.enc x).cells.toList 74,ob k1 [Value.int .i64 how] 3] ⟨371,#[],#[.pointer (some ⟨k0,0,none⟩),.pointer (some ⟨k1,0,none⟩)]⟩ (λy=>[ZK.enc y]) cB (λy:ZE=>!ZFO how x y):=by intro y h l Q hcc o hq;have m0:=o.mem (hcc (ob k0 (ZK.enc x).cells.toList 74) List.mem_cons_self);have m1:=o.mem (hcc (ob k1 [Value.int .i64 how] 3) (List.mem_cons_of_mem _ List.mem_cons_self));refine ⟨⟨Tryz.f371,_,Tryz.func371,rfl⟩,?_⟩;refine c371 ?_;unfold F371;refine ZF (cd:=ZK) m0 (x:=x) rfl (ZF m1 (x:=how) rfl ?_);exact ZTI (hq h o)
theorem ZFF {α:Type} (φ:α→Bool):∀ l:List α,l.takeWhile φ=match l.findIdx? fun x=>!φ x with|none=>l|some i=>l.take i
 | []=>rfl
 | x::l=>by
   rw [List.takeWhile_cons,List.findIdx?_cons];cases h:φ x with
   | false=>simp
   | true=>
     simp only [Bool.not_true,Bool.false_eq_true,if_false,if_true];rw [ZFF φ l];cases l.findIdx? λx=>!φ x with
     | none=>rfl
     | some i=>rfl
theorem ZJk {x:ZE} {how:Int} (o:On h (c::l)) (w:Zk p xs c) (hs:ZDR xs) (hl:xs.length≤1000) {Q:Sl→Hp→Prop} (hq:∀ sl c' d' h',On h' (c'::d'::l)→Zk p xs c'→Row ZK d' sl (ZBu xs x how)→Q sl h'):
 ZA TP 354 [Value.pointer p,ZK.enc x,Value.int .i64 how] cSl h Q:=by
 refine c354 ?_;unfold F354;refine ZH o λk1 h1 o1=>?_;refine ZH o1 λk2 h2 o2=>?_;have o2:On h2 (ob k2 [Value.int .i64 how] 3::ob k1 (ZK.enc x).cells.toList 74::c::l):=o2;refine ZI (x:=x.Side) o2 1 rfl rfl ?_;refine ZJO ?_;refine ZFl (s:=ZBg x.Side) (o2.pick [2,0,1] 3 (by decide) (by decide)) w hs hl λsl c3 d3 h3 o3 w3 wd3=>?_;have hl3:=ZCm xs (ZBg x.Side);refine ZG5 (f:=⟨371,#[],#[.pointer (some ⟨k1,0,none⟩),.pointer (some ⟨k2,0,none⟩)]⟩) (ZYf (k0:=k1) (k1:=k2) (x:=x) (how:=how)) o3 (λp hp=>by
  rcases List.mem_cons.1 hp with rfl|hp
  .exact List.mem_cons_of_mem _ (List.mem_cons_of_mem _ (List.mem_cons_of_mem _ List.mem_cons_self))
  .rw [List.mem_singleton.1 hp]; exact List.mem_cons_of_mem _ (List.mem_cons_of_mem _ List.mem_cons_self)) (g:=d3) (by simp) wd3.row (by omega) λh4 o4=>?_
 have o4':On h4 (c3::d3::l):=o4.pick [0,1] 4 (by decide) (by decide);unfold ZBu at hq;rw [ZFF] at hq;have hlen:=wd3.1;have hcap:=wd3.le_cap (by decide);cases hi:(ZBB xs (ZBg x.Side)).findIdx? λy=>!ZFO how x y with
 | none=>
   rw [hi] at hq;exact Zh rfl (hq sl c3 d3 h4 o4' w3 wd3.row)
 | some i=>
   rw [hi] at hq;obtain ⟨_,_,_,_,hlt,_⟩:=ZAk hi;refine ZT (decide_eq_false (by show ¬((i:Nat):Int)<0; omega)) ?_;refine ⟨Int.natCast_nonneg i,by show (((i:Nat):Int))<=_; omega,?_⟩;dsimp only;have hcut:=wd3.row.cut (k:=0) (m:=i) (cap':=sl.cap-0) (by omega) (by omega) hcap rfl (z:=6) rfl;rw [List.drop_zero,Nat.sub_zero] at hcut;exact hq _ c3 d3 h4 o4' w3 hcut
theorem ZN4 {how:Int} {Q:Bool->Hp->Prop} (hq:Q (ZC4 how) h):ZA TP 356 [Value.int .i64 how] cB h Q:=by refine c356 ?_;unfold F356;unfold ZC4 at hq;exact ZD (λe=>by rwa [e,Bool.true_or] at hq) λe=>by rwa [e,Bool.false_or] at hq
def ZFe (l:List ZE):Prop:=∀ x∈l,1<=x.Left/\x.Left<=1000000/\1<=x.Price/\x.Price<=1000000
theorem ZCD {x:ZE} {how:Int} {y:ZE} (h:y∈ZBu xs x how):y∈xs:=by unfold ZBu at h;exact (ZA0.1 ((List.takeWhile_sublist _).subset h)).1
theorem ZFx (x:ZE) (how:Int):(ZBu xs x how).length<=xs.length:=Nat.le_trans (List.takeWhile_sublist _).length_le (ZCm _ _)
theorem ZVY {x:ZE} {how:Int} (o:On h (c::l)) (w:Zk p xs c) (hs:ZDR xs) (hsm:ZFe xs) (hl:xs.length≤1000) {Q:Int→Hp→Prop} (hq:∀ c' h',On h' (c'::l)→Zk p xs c'→Q (ZNV xs x how) h'):
 ZA TP 370 [Value.pointer p,ZK.enc x,Value.int .i64 how] (cI .i64) h Q:=by
 refine c370 ?_;unfold F370;unfold ZNV at hq;refine ZDF (ZD (λe=>?_) λe=>?_)
 .have e:ZBZ x.Side=false:=by simpa using e
  rw [if_pos e] at hq;exact hq c h o w
 ·have e:ZBZ x.Side=true:=by simpa using e
  rw [if_neg (by rw [e]; simp)] at hq;refine ZJk o w hs hl λsl c1 d1 h1 o1 w1 r1=>?_;have hlen:=r1.1;have hml:=ZFx (xs:=xs) x how;have hmm:∀ y∈ZBu xs x how,1<=y.Left/\y.Left<=1000000:=λy hy=>⟨(hsm y (ZCD hy)).1,(hsm y (ZCD hy)).2.1⟩
  generalize ZBu xs x how=ms at hq r1 hlen hml hmm
  have hsum:∀ i,0≤(((ms.take i).filter fun y=>y.Owner != x.Owner).map fun y=>y.Left).sum∧(((ms.take i).filter fun y=>y.Owner != x.Owner).map fun y=>y.Left).sum≤1000000*(i:Int):=by
   intro i;induction i with
   | zero=>simp
   | succ i ih=>
     rw [List.take_add_one];cases hy:ms[i]? with
     | none=>simp; omega
     | some y=>
       have:=hmm y (List.mem_of_getElem? hy);rw [List.filter_append,List.map_append,List.sum_append];by_cases he:(y.Owner != x.Owner)=true
       .simp only [Option.toList_some,List.filter_cons,he,if_true,List.filter_nil,List.map_cons,List.map_nil,List.sum_cons,List.sum_nil];omega
       .simp only [Option.toList_some,List.filter_cons,he,List.filter_nil];simp; omega
  refine Zb (λz h'=>∃ i:Nat,z=((((ms.take i).filter λy=>y.Owner != x.Owner).map λy=>y.Left).sum,(i:Int))/\i<=ms.length/\h'=h1) (λz=>ms.length-z.2.toNat) ⟨0,by simp,Nat.zero_le _,rfl⟩ ?_;rintro J z h2 again ⟨i,rfl,hle,rfl⟩
  dsimp only;have hsi:=hsum i;refine ZJ (λhlt=>?_) λhge=>?_
  .have hi:i<ms.length:=by omega
   have a0:ms[i]?=some ms[i]:=List.getElem?_eq_getElem hi;have hy:=hmm _ (List.mem_of_getElem? a0);generalize ms[i]=y at a0 hy;have ei:IntKind.i64.wrap ((i:Int)+1)=((i+1:Nat):Int):=ZAQ (by omega);rw [ei];have est:(((ms.take (i+1)).filter λy=>y.Owner != x.Owner).map λy=>y.Left).sum=(((ms.take i).filter λy=>y.Owner != x.Owner).map λy=>y.Left).sum+if (y.Owner != x.Owner)=true then y.Left else 0:=by rw [List.take_add_one,a0,List.filter_append,List.map_append,List.sum_append];by_cases he:(y.Owner != x.Owner)=true<;>simp [he]
   refine ZN (λn h'=>h'=h2/\n=(((ms.take (i+1)).filter λy=>y.Owner != x.Owner).map λy=>y.Left).sum) ?_ λJ2 hJ2=>?_
   .rintro n h3 ⟨rfl,rfl⟩;exact again _ _ ⟨i+1,rfl,by omega,rfl⟩ (by dsimp only; omega)
   .refine ZL r1 (Int.natCast_nonneg i) (by omega) λa ha=>ZO r1 (o1.mem (by simp)) rfl ha (i:=i) a0 (by rfl) ?_;refine ZD (λhe=>hJ2 _ _ ⟨rfl,?_⟩) λhe=>hJ2 _ _ ⟨rfl,?_⟩
    .rw [est,if_pos he];exact w64 (by omega) (by omega)
    .rw [est,if_neg (by rw [he]; simp)]; simp
  .have:i=ms.length:=by omega
   subst this;rw [List.take_length];have hq:=hq c1 h2 (o1.pick [0] 2 (by decide) (by decide)) w1;have e1:∀ a b:Int,ZVA (ZJy a b) 0=max (min a b) 0:=by intro a b;unfold ZVA ZJy;split<;>split<;>omega
   rw [e1];exact hq
end
theorem ZSr (a b:Int):ZJy a b=min a b:=by unfold ZJy; split<;>omega
section
variable {p:Option Addr} {xs:List ZE} {c h:Hp} {l:List Hp}
theorem ZKF (φ:ZE->Bool) (xs:List ZE):(xs.any λx=>ZBZ x.Side&&φ x)=((ZBB xs 1).any φ||(ZBB xs 2).any φ):=by
 rw [Bool.eq_iff_iff];simp only [Bool.or_eq_true,List.any_eq_true,Bool.and_eq_true,ZHQ];constructor
 .rintro ⟨x,hx,hs|hs,hp⟩
  .exact .inl ⟨x,ZA0.2 ⟨hx,hs⟩,hp⟩
  .exact .inr ⟨x,ZA0.2 ⟨hx,hs⟩,hp⟩
 .rintro (⟨x,hx,hp⟩|⟨x,hx,hp⟩)
  .exact ⟨x,(ZA0.1 hx).1,.inl (ZA0.1 hx).2,hp⟩
  .exact ⟨x,(ZA0.1 hx).1,.inr (ZA0.1 hx).2,hp⟩
def ZBO (x:ZE) (how:Int):ZE:=if how=4 then {x with Price:=1} else x
theorem ZSK (x:ZE) (how:Int):(ZBO x how).ID=x.ID/\(ZBO x how).Seq=x.Seq:=by unfold ZBO; split<;>exact ⟨rfl,rfl⟩
theorem ZUG {x:ZE} {how:Int} (o:On h (c::l)) (w:Zk p xs c) (hs:ZDR xs) (hl:xs.length≤1000) {Q:Bool→Hp→Prop} (hq:∀ c' h',On h' (c'::l)→Zk p xs c'→Q (ZC6 xs x how) h'):
 ZA TP 368 [Value.pointer p,ZK.enc x,Value.int .i64 how] cB h Q:=by
 refine c368 ?_;unfold F368;refine ZH o λk1 h1 o1=>?_;have o1:On h1 (ob k1 (ZK.enc x).cells.toList 74::c::l):=o1;unfold ZC6 at hq;refine ZN (λt h'=>h'=h1/\t=decide (how<0\/4<how)) ?_ λJ3 hJ3=>?_
 ·rintro t h2 ⟨rfl,rfl⟩;refine ZJ (fun e=>?_) fun e=>?_
  .rw [if_pos e] at hq;exact hq c h2 o1.tail w
  ·rw [if_neg e] at hq;refine ZN (fun _ h'=>On h' (ob k1 (ZK.enc (ZBO x how)).cells.toList 74::c::l)∧¬(how=4∧x.Price≠0)) ?_ fun J2 hJ2=>?_
   ·rintro _ h3 ⟨o3,hne⟩;rw [if_neg hne] at hq;refine ZH o3 fun k2 h4 o4=>?_;have o4':On h4 (c::ob k2 [Value.int .i64 1,Value.int .i64 2] 3::ob k1 (ZK.enc (ZBO x how)).cells.toList 74::l):=o4.pick [2,0,1] 3 (by decide) (by decide);have hid:=ZSK x how;refine Zb (fun z h'=>∃ (i:Nat) (c:Hp),z=(i:Int)∧i≤2∧On h' (c::ob k2 [Value.int .i64 1,Value.int .i64 2] 3::ob k1 (ZK.enc (ZBO x how)).cells.toList 74::l)∧Zk p xs c∧∀ j:Nat,j<i→(ZBB xs ((j:Int)+1)).any (fun y=>y.ID==x.ID||y.Seq==x.Seq)=false) (fun z=>2-z.toNat)
     ⟨0,c,rfl,by omega,o4',w,λj hj=>by omega⟩ ?_
    rintro J1 z h5 again ⟨i,c5,rfl,hi2,o5,w5,hno⟩
    have rr:Row (cI .i64) (ob k2 [Value.int .i64 1,Value.int .i64 2] 3) ⟨some ⟨k2,0,none⟩,2,2⟩ [1,2]:=Ze rfl rfl;refine ZJ (λhlt=>?_) λhge=>?_
    ·have hi:i<2:=by omega
     have a0:([1,2]:List Int)[i]?=some ((i:Int)+1):=by
      rcases Nat.lt_or_ge i 1 with h'|h'
      .obtain rfl:i=0:=by omega
       rfl
      .obtain rfl:i=1:=by omega
       rfl
     refine ZL rr (Int.natCast_nonneg i) (by simp; omega) λa ha=>ZO rr (o5.mem (by simp)) rfl ha (i:=i) a0 (by simp) ?_;refine ZFl (s:=(i:Int)+1) o5 w5 hs hl λsl c6 d6 h6 o6 w6 wd6=>?_;have hl6:=ZCm xs ((i:Int)+1);refine ZGV (f:=⟨381,#[],#[.pointer (some ⟨k1,0,none⟩)]⟩) (ZZB (k0:=k1) (y:=ZBO x how)) o6 (λp hp=>by
      rw [List.mem_singleton.1 hp];exact List.mem_cons_of_mem _ (List.mem_cons_of_mem _ (List.mem_cons_of_mem _ List.mem_cons_self))) (g:=d6) (by simp) wd6.row (by omega) λh7 o7=>?_
     rw [hid.1,hid.2];have o7':On h7 (c6::ob k2 [Value.int .i64 1,Value.int .i64 2] 3::ob k1 (ZK.enc (ZBO x how)).cells.toList 74::l):=o7.pick [0,2,3] 4 (by decide) (by decide);refine ZD (λe7=>?_) λe7=>?_
     ·have:(xs.any fun y=>ZBZ y.Side&&(y.ID==x.ID||y.Seq==x.Seq))=true:=by
       rw [ZKF];rcases Nat.lt_or_ge i 1 with h'|h'
       .obtain rfl:i=0:=by omega
        rw [show (((0:Nat):Int)+1)=1 from rfl] at e7;rw [e7]; rfl
       .obtain rfl:i=1:=by omega
        rw [show (((1:Nat):Int)+1)=2 from rfl] at e7;rw [e7,Bool.or_true]
      rw [if_pos this] at hq;exact hq c6 h7 (o7'.pick [0] 3 (by decide) (by decide)) w6
     .have ei:IntKind.i64.wrap ((i:Int)+1)=((i+1:Nat):Int):=ZAQ (by omega);rw [ei];refine again _ _ ⟨i+1,c6,rfl,by omega,o7',w6,λj hj=>?_⟩ (by omega);rcases Nat.lt_or_ge j i with h'|h'
      .exact hno j h'
      .obtain rfl:j=i:=by omega
       exact e7
    .obtain rfl:i=2:=by omega
     have h0:=hno 0 (by omega);have h1':=hno 1 (by omega);rw [show (((0:Nat):Int)+1)=1 from rfl] at h0;rw [show (((1:Nat):Int)+1)=2 from rfl] at h1';have:¬(xs.any λy=>ZBZ y.Side&&(y.ID==x.ID||y.Seq==x.Seq))=true:=by rw [ZKF,h0,h1']; simp
     rw [if_neg this] at hq;refine ZI (cd:=ZK) (x:=ZBO x how) o5 2 rfl rfl ?_;refine ZSe o5 λpn cn h6 o6 w6=>?_;refine ⟨⟨Hp.sub_rds (o6.get (i:=3) rfl) (ZCS rfl),trivial⟩,?_⟩;refine ZSU (x:=ZBO x how) o6 w6 (by simp) λc7 h7 o7 w7=>?_;have hq:=hq c5 h7 (o7.pick [1] 4 (by decide) (by decide)) w5;have e:((ZLu [] (ZBO x how)).2==0)=Zn (if how=4 then {x with Price:=1} else x):=by show _=Zn (ZBO x how);unfold ZLu;cases hb:Zn (ZBO x how)<;>simp
     rw [e];have hq':Q (Zn (if how=4 then {x with Price:=1} else x)) h7:=hq;exact hq'
   ·refine ZD (fun e4=>?_) fun e4=>?_
    .have e4:how=4:=by simpa using e4
     refine ZI (x:=x.Price) o1 0 rfl rfl ?_;refine ZD (λe5=>?_) λe5=>?_
     .have e5:x.Price≠0:=by simpa using e5
      rw [if_pos ⟨e4,e5⟩] at hq;exact hq c h2 o1.tail w
     .have e5:x.Price=0:=by simpa using e5
      refine ZZ (cd:=cI .i64) (i:=4) (x:=(1:Int)) (vs':=(ZK.enc (ZBO x how)).cells.toList) o1 rfl ?_ (show 4+1<=6 by decide) λh3 o3=>hJ2 _ _ ⟨o3,λh=>h.2 e5⟩;unfold ZBO;rw [if_pos e4];rfl
    .have e4:¬how=4:=by simpa using e4
     refine hJ2 _ _ ⟨?_,λh=>e4 h.1⟩;unfold ZBO;rw [if_neg e4];exact o1
 .refine ZT (by obtain ⟨b,rfl⟩:=w.some; rfl) ?_;refine ZJ (λe=>hJ3 _ _ ⟨rfl,(decide_eq_true (.inl e)).symm⟩) λe=>hJ3 _ _ ⟨rfl,decide_eq_decide.2 (by omega)⟩
theorem ZTw {x:ZE} {how:Int} (o:On h (c::l)) (w:Zk p xs c) (hs:ZDR xs) (hsm:ZFe xs) (hl:xs.length≤1000) {Q:Int→Hp→Prop} (hq:∀ c' h',On h' (c'::l)→Zk p xs c'→Q (ZBW xs x how) h'):
 ZA TP 353 [Value.pointer p,ZK.enc x,Value.int .i64 how] (cI .i64) h Q:=by
 refine c353 ?_;unfold F353;unfold ZBW at hq;refine ZUG o w hs hl λc1 h1 o1 w1=>?_;refine ZD (λe=>?_) λe=>?_
 .have e:ZC6 xs x how=false:=by simpa using e
  rw [if_pos e] at hq;exact hq c1 h1 o1 w1
 have e:ZC6 xs x how=true:=by simpa using e
 rw [if_neg (by rw [e]; simp)] at hq;refine ZN (λt h'=>On h' (c1::l)/\t=decide (ZC4 how=true/\64<=xs.length)) ?_ λJ3 hJ3=>?_
 ·rintro t h2 ⟨o2,rfl⟩;refine ZJ (fun e=>?_) fun e=>?_
  .rw [if_pos e] at hq;exact hq c1 h2 o2 w1
  rw [if_neg e] at hq;refine ZN (λt h'=>∃ c,On h' (c::l)/\Zk p xs c/\t=decide (how=3/\ZBu xs x how≠[])) ?_ λJ2 hJ2=>?_
  ·rintro t h3 ⟨c3,o3,w3,rfl⟩;refine ZJ (fun e=>?_) fun e=>?_
   .rw [if_pos e] at hq;exact hq c3 h3 o3 w3
   rw [if_neg e] at hq;refine ZN (λt h'=>∃ c,On h' (c::l)/\Zk p xs c/\t=decide (how=2/\ZNV xs x how<x.Left)) ?_ λJ1 hJ1=>?_
   .rintro t h4 ⟨c4,o4,w4,rfl⟩;refine ZJ (λe=>?_) λe=>?_
    .rw [if_pos e] at hq;exact hq c4 h4 o4 w4
    .rw [if_neg e] at hq;exact hq c4 h4 o4 w4
   .refine ZD (λe2=>?_) λe2=>?_
    .have e2:how=2:=by simpa using e2
     refine ZVY o3 w3 hs hsm hl λc5 h5 o5 w5=>hJ1 _ _ ⟨c5,o5,w5,decide_eq_decide.2 ?_⟩;exact ⟨λh=>⟨e2,h⟩,λh=>h.2⟩
    .have e2:¬how=2:=by simpa using e2
     exact hJ1 _ _ ⟨c3,o3,w3,(decide_eq_false λh=>e2 h.1).symm⟩
  .refine ZD (λe2=>?_) λe2=>?_
   .have e2:how=3:=by simpa using e2
    refine ZJk o2 w1 hs hl λsl c5 d5 h5 o5 w5 r5=>hJ2 _ _ ⟨c5,o5.pick [0] 2 (by decide) (by decide),w5,decide_eq_decide.2 ?_⟩;have hlen:=r5.1;constructor
    .intro hp;refine ⟨e2,λhn=>?_⟩;rw [hn,List.length_nil] at hlen;omega
    .rintro ⟨_,hn⟩;have:=List.length_pos_iff.2 hn;omega
   .have e2:¬how=3:=by simpa using e2
    exact hJ2 _ _ ⟨c1,o2,w1,(decide_eq_false λh=>e2 h.1).symm⟩
 .refine ZN4 (ZD (λe2=>?_) λe2=>?_)
  .refine ZXH (o1.mem (by simp)) w1 (hJ3 _ _ ⟨o1,decide_eq_decide.2 ?_⟩);exact ⟨λh=>⟨e2,by omega⟩,λh=>by omega⟩
  .exact hJ3 _ _ ⟨o1,(decide_eq_false λh=>by rw [h.1] at e2; cases e2).symm⟩
theorem ZVa {k:Nat} {x y:ZE} (o:On h (c::ob k (ZK.enc x).cells.toList 74::l)) (w:Zk p xs c) (hl:xs.length≤1000) (h1:0≤x.Left∧x.Left≤1000000) (h2:0≤y.Left∧y.Left≤1000000) {Q:ZH5→Hp→Prop}
 (hq:∀ c' h',On h' (c'::ob k (ZK.enc (ZAS x (x.Left-min x.Left y.Left))).cells.toList 74::l)->Zk p (if min x.Left y.Left=y.Left then ZBC xs y.ID else (ZDD xs y.ID (y.Left-min x.Left y.Left)).1) c'->Q (ZEt x y (min x.Left y.Left)) h'):
 ZA TP 355 [Value.pointer p,Value.pointer (some ⟨k,0,none⟩),ZK.enc y] ZDj h Q:=by
 refine c355 ?_;unfold F355;dsimp only [ZR];refine ZI (x:=x.Left) o 1 rfl rfl (ZI (x:=x.Left) o 1 rfl rfl ?_);rw [ZSr,w64 (by omega) (by omega),w64 (by omega) (by omega)];refine ZZ (cd:=cI .i64) (i:=5) (x:=x.Left-min x.Left y.Left) (vs':=(ZK.enc (ZAS x (x.Left-min x.Left y.Left))).cells.toList) o.swap rfl rfl (show 5+1<=6 by decide) λh3 o3=>?_;refine ZN (λ_ h'=>∃ c',On h' (c'::ob k (ZK.enc (ZAS x (x.Left-min x.Left y.Left))).cells.toList 74::l)/\Zk p (if min x.Left y.Left=y.Left then ZBC xs y.ID else (ZDD xs y.ID (y.Left-min x.Left y.Left)).1) c') ?_ λJ hJ=>?_
 .rintro _ h4 ⟨c4,o4,w4⟩;refine ZI (x:=x.ID) o4 1 rfl rfl (ZI (x:=x.Owner) o4 1 rfl rfl ?_);exact hq c4 h4 o4 w4
 .refine ZD (λe=>?_) λe=>?_
  .have e:min x.Left y.Left=y.Left:=by simpa using e
   refine ZFu o3.swap w hl λc5 h5 o5 w5=>hJ _ _ ⟨c5,o5,?_⟩;rw [if_pos e]; exact w5
  .have e:¬min x.Left y.Left=y.Left:=by simpa using e
   refine ZNl o3.swap w hl λc5 h5 o5 w5=>hJ _ _ ⟨c5,o5,?_⟩;rw [if_neg e]; exact w5
theorem ZKB (xs:List ZE) (id:Int):(ZBC xs id).length<=xs.length:=List.length_eraseP_le
theorem ZQj (xs:List ZE) (id left:Int):(ZDD xs id left).1.length=xs.length:=by
 unfold ZDD;split
 .rfl
 .split
  .rfl
  .split
   .rfl
   .simp
theorem ZKr (c:ZB5) (x:ZE):(Zi c x).l.length≤c.l.length∧(Zi c x).fills.length≤c.fills.length+1∧(Zi c x).gone.length≤c.gone.length+1:=by
 unfold Zi;split
 .exact ⟨Nat.le_refl _,Nat.le_succ _,Nat.le_succ _⟩
 .split
  .exact ⟨ZKB _ _,Nat.le_succ _,by simp⟩
  .refine ⟨?_,by simp,Nat.le_succ _⟩;dsimp only;split
   .exact ZKB _ _
   .rw [ZQj]; exact Nat.le_refl _
theorem ZER {c:ZB5} {x:ZE} (h1:0<=c.o.Left/\c.o.Left<=1000000) (h2:0<=x.Left):0<=(Zi c x).o.Left/\(Zi c x).o.Left<=1000000:=by
 unfold Zi;split
 .exact h1
 .split
  .exact h1
  .show 0<=c.o.Left-min c.o.Left x.Left/\c.o.Left-min c.o.Left x.Left<=1000000;omega
theorem ZGM (c:ZB5) (x:ZE):(Zi c x).o.ID=c.o.ID/\(Zi c x).o.Seq=c.o.Seq/\(Zi c x).o.Owner=c.o.Owner/\(Zi c x).o.Side=c.o.Side/\(Zi c x).o.Price=c.o.Price:=by
 unfold Zi;split
 .exact ⟨rfl,rfl,rfl,rfl,rfl⟩
 .split<;>exact ⟨rfl,rfl,rfl,rfl,rfl⟩
theorem ZKo:∀ (ms:List ZE) (c:ZB5),c.o.Left=0→ms.foldl Zi c=c
 | [],_,_=>rfl
 | x::ms,c,h=>by
   have e:Zi c x=c:=by unfold Zi; rw [if_pos h]
   rw [List.foldl_cons,e];exact ZKo ms c h
theorem ZaT {x:ZE} {how:Int} (o:On h (c::l)) (w:Zk p xs c) (hs:ZDR xs) (hsm:ZFe xs) (hl:xs.length≤1000) {Q:Sl×Sl×Int×Int→Hp→Prop}
 (hq:∀ sf sg c' df dg h',On h' (c'::df::dg::l)->Zk p (doV xs x how).1 c'->Own ZDj df sf (doV xs x how).2.1->Own ZII dg sg (doV xs x how).2.2.1->Q (sf,sg,(doV xs x how).2.2.2.1,(doV xs x how).2.2.2.2) h'):
 ZA TP 323 [Value.pointer p,ZK.enc x,Value.int .i64 how] (ZW [cSl,cSl,cI .i64,cI .i64]) h Q:=by
 refine c323 ?_
 unfold F323
 refine ZH o λk1 h1 o1=>?_
 have o1:On h1 (ob k1 (ZK.enc x).cells.toList 74::c::l):=o1
 refine ZI (cd:=ZK) (x:=x) o1 0 rfl rfl ?_
 unfold doV at hq
 refine ZTw (x:=x) o1.swap w hs hsm hl λc2 h2 o2 w2=>?_
 refine ZD (λe=>?_) λe=>?_
 .have e:ZBW xs x how≠0:=by simpa using e
  rw [if_pos e] at hq
  exact hq ⟨none,0,0⟩ ⟨none,0,0⟩ c2 Hp.emp Hp.emp h2 ((o2.emp.emp).pick [2,0,1] 4 (by decide) (by decide)) w2 (Own.nil _) (Own.nil _)
 have e:¬ZBW xs x how≠0:=by simpa using e
 rw [if_neg e] at hq
 -- a right one: how much it is
 have hx:1<=x.Left/\x.Left<=1000000:=by
  have e:ZBW xs x how=0:=Classical.not_not.1 e
  unfold ZBW at e
  split at e
  .cases e
  .rename_i hn
   have hn:ZC6 xs x how=true:=by cases hb:ZC6 xs x how with|true=>rfl|false=>exact absurd hb hn
   unfold ZC6 at hn
   split at hn
   .cases hn
   split at hn
   .cases hn
   split at hn
   .cases hn
   have hb:Zn (ZBO x how)=true:=hn
   have hl2:(ZBO x how).Left=x.Left:=by unfold ZBO; split<;>rfl
   unfold Zn at hb
   simp only [Bool.and_eq_true,decide_eq_true_eq] at hb
   rw [hl2] at hb
   exact ⟨hb.2.2.2.2.1,hb.2.2.2.2.2.1⟩
 refine ZI (cd:=ZK) (x:=x) o2 1 rfl rfl ?_
 refine ZJk (x:=x) o2 w2 hs hl λsl c3 d3 h3 o3 w3 r3=>?_
 have hlen:=r3.1
 have hml:=ZFx (xs:=xs) x how
 have hmm:∀ y∈ZBu xs x how,1<=y.Left/\y.Left<=1000000:=λy hy=>⟨(hsm y (ZCD hy)).1,(hsm y (ZCD hy)).2.1⟩
 unfold ZAJ at hq
 generalize ZBu xs x how=ms at hq r3 hlen hml hmm
 have o3':On h3 (c3::ob k1 (ZK.enc x).cells.toList 74::Hp.emp::Hp.emp::d3::l):=o3.emp.emp.pick [2,4,0,1,3] 5 (by decide) (by decide)
 refine ZN (λz h'=>∃ (c df dg:Hp),On h' (c::ob k1 (ZK.enc (ms.foldl Zi ⟨xs,x,[],[]⟩).o).cells.toList 74::df::dg::d3::l)/\Zk p (ms.foldl Zi ⟨xs,x,[],[]⟩).l c/\Own ZDj df z.1 (ms.foldl Zi ⟨xs,x,[],[]⟩).fills/\Own ZII dg z.2 (ms.foldl Zi ⟨xs,x,[],[]⟩).gone/\(ms.foldl Zi ⟨xs,x,[],[]⟩).l.length<=xs.length) ?_ λJ3 hJ3=>?_
 ·rintro ⟨zf,zg⟩ h4 ⟨c4,df,dg,o4,w4,wf,wg,hll⟩
  dsimp only at wf wg ⊢
  generalize ms.foldl Zi ⟨xs,x,[],[]⟩=cr at hq o4 w4 wf wg hll
  refine ZN (λ_ h'=>∃ c,On h' (c::ob k1 (ZK.enc cr.o).cells.toList 74::df::dg::d3::l)/\Zk p (if ZC4 how=true/\0<cr.o.Left then (ZLu cr.l cr.o).1 else cr.l) c) ?_ λJ1 hJ1=>?_
  .rintro _ h5 ⟨c5,o5,w5⟩
   refine ZI (x:=cr.o.Left) o5 1 rfl rfl ?_
   exact hq zf zg c5 df dg h5 (o5.pick [0,2,3] 5 (by decide) (by decide)) w5 wf wg
  ·refine ZN (fun t h'=>On h' (c4::ob k1 (ZK.enc cr.o).cells.toList 74::df::dg::d3::l)∧t=decide (ZC4 how=true∧0<cr.o.Left)) ?_ fun J2 hJ2=>?_
   .rintro t h5 ⟨o5,rfl⟩
    refine ZJ (λe=>?_) λe=>?_
    .rw [if_pos e] at hJ1
     refine ZI (cd:=ZK) (x:=cr.o) o5 1 rfl rfl ?_
     refine ZSU (x:=cr.o) o5 w4 (by omega) λc6 h6 o6 w6=>hJ1 _ _ ⟨c6,o6,w6⟩
    .rw [if_neg e] at hJ1
     exact hJ1 _ _ ⟨c4,o5,w4⟩
   .refine ZN4 (ZD (λe=>?_) λe=>?_)
    .refine ZI (x:=cr.o.Left) o4 1 rfl rfl ?_
     refine hJ2 _ _ ⟨o4,decide_eq_decide.2 ⟨λh=>⟨e,h⟩,λh=>h.2⟩⟩
    .exact hJ2 _ _ ⟨o4,(decide_eq_false λh=>by rw [h.1] at e; cases e).symm⟩
 ·refine Zb (fun z h'=>∃ (i:Nat) (c df dg:Hp),z.2.2=(i:Int)∧i≤ms.length∧On h' (c::ob k1 (ZK.enc ((ms.take i).foldl Zi ⟨xs,x,[],[]⟩).o).cells.toList 74::df::dg::d3::l)∧Zk p ((ms.take i).foldl Zi ⟨xs,x,[],[]⟩).l c∧
   Own ZDj df z.1 ((ms.take i).foldl Zi ⟨xs,x,[],[]⟩).fills/\Own ZII dg z.2.1 ((ms.take i).foldl Zi ⟨xs,x,[],[]⟩).gone/\((ms.take i).foldl Zi ⟨xs,x,[],[]⟩).l.length<=xs.length/\((ms.take i).foldl Zi ⟨xs,x,[],[]⟩).fills.length<=i/\((ms.take i).foldl Zi ⟨xs,x,[],[]⟩).gone.length<=i/\
   0<=((ms.take i).foldl Zi ⟨xs,x,[],[]⟩).o.Left/\((ms.take i).foldl Zi ⟨xs,x,[],[]⟩).o.Left<=1000000) (λz=>ms.length-z.2.2.toNat)
   ⟨0,c3,Hp.emp,Hp.emp,rfl,Nat.zero_le _,o3',w3,Own.nil _,Own.nil _,Nat.le_refl _,Nat.le_refl _,Nat.le_refl _,by show 0<=x.Left; omega,hx.2⟩ ?_
  rintro J4 ⟨zf,zg,zi⟩ h4 again ⟨i,c4,df,dg,hzi,hle,o4,w4,wf,wg,b1,b2,b3,b4,b5⟩
  dsimp only at hzi wf wg
  subst hzi
  dsimp only
  refine ZJ (λhlt=>?_) λhge=>?_
  ·have hi:i<ms.length:=by omega
   have a0:ms[i]?=some ms[i]:=List.getElem?_eq_getElem hi
   have hy:=hmm _ (List.mem_of_getElem? a0)
   have estep:=Z7 Zi ⟨xs,x,[],[]⟩ ms a0
   have efull:ms.foldl Zi ⟨xs,x,[],[]⟩=(ms.drop i).foldl Zi ((ms.take i).foldl Zi ⟨xs,x,[],[]⟩):=by rw [<-List.foldl_append,List.take_append_drop]
   generalize ms[i]=y at a0 hy estep
   have ei:IntKind.i64.wrap ((i:Int)+1)=((i+1:Nat):Int):=ZAQ (by omega)
   rw [ei]
   have hml1:=ZKr ((ms.take i).foldl Zi ⟨xs,x,[],[]⟩) y
   have hml2:=ZER (c:=(ms.take i).foldl Zi ⟨xs,x,[],[]⟩) (x:=y) ⟨b4,b5⟩ (by omega)
   rw [<-estep] at hml1 hml2
   generalize (ms.take i).foldl Zi ⟨xs,x,[],[]⟩=cr at o4 w4 wf wg b1 b2 b3 b4 b5 estep efull hml1
   refine ZN (λz h'=>∃ (c df dg:Hp),On h' (c::ob k1 (ZK.enc (Zi cr y).o).cells.toList 74::df::dg::d3::l)/\Zk p (Zi cr y).l c/\Own ZDj df z.1 (Zi cr y).fills/\Own ZII dg z.2 (Zi cr y).gone) ?_ λJ5 hJ5=>?_
   .rintro ⟨z1,z2⟩ h5 ⟨c5,df5,dg5,o5,w5,wf5,wg5⟩
    rw [<-estep] at o5 w5 wf5 wg5
    exact again _ _ ⟨i+1,c5,df5,dg5,rfl,by omega,o5,w5,wf5,wg5,by omega,by omega,by omega,hml2.1,hml2.2⟩ (by dsimp only; omega)
   ·refine ZL r3 (Int.natCast_nonneg i) (by omega) fun a ha=>ZO r3 (o4.mem (by simp)) rfl ha (i:=i) a0 (by rfl) ?_
    refine ZI (x:=cr.o.Left) o4 1 rfl rfl ?_
    refine ZD (λe0=>?_) λe0=>?_
    .have e0:cr.o.Left=0:=by simpa using e0
     rw [ZKo _ _ e0] at efull
     refine hJ3 (zf,zg) h4 ⟨c4,df,dg,?_⟩
     rw [efull]
     exact ⟨o4,w4,wf,wg,b1⟩
    .have e0:¬cr.o.Left=0:=by simpa using e0
     unfold Zi at hJ5
     rw [if_neg e0] at hJ5
     refine ZI (x:=cr.o.Owner) o4 1 rfl rfl ?_
     refine ZD (λe1=>?_) λe1=>?_
     .have e1:y.Owner=cr.o.Owner:=by simpa using e1
      rw [if_pos e1] at hJ5
      refine ZFu o4 w4 (by omega) λc5 h5 o5 w5=>?_
      refine ZH o5 λk6 h6 o6=>?_
      have r6:Row ZII (ob k6 [Value.int .i64 y.ID,Value.int .i64 y.Owner,Value.int .i64 y.Left] 394) ⟨some ⟨k6,0,none⟩,1,1⟩ [⟨y.ID,y.Owner,y.Left⟩]:=Ze rfl rfl
      have o6':On h6 (dg::ob k6 [Value.int .i64 y.ID,Value.int .i64 y.Owner,Value.int .i64 y.Left] 394::c5::ob k1 (ZK.enc cr.o).cells.toList 74::df::d3::l):=o6.pick [4,0,1,2,3,5] 6 (by decide) (by decide)
      refine ZU (g:=ob k6 [Value.int .i64 y.ID,Value.int .i64 y.Owner,Value.int .i64 y.Left] 394) (s:=zg) (t:=⟨some ⟨k6,0,none⟩,1,1⟩) o6' rfl wg (by decide) r6 (o6'.mem (by simp)) (by unfold ZAR; simp; omega) λd7 p7 n7 m7 h7 o7 w7=>?_
      exact hJ5 (zf,⟨p7,n7,m7⟩) h7 ⟨c5,df,d7,o7.pick [2,3,4,0,5] 6 (by decide) (by decide),w5,wf,w7⟩
     .have e1:¬y.Owner=cr.o.Owner:=by simpa using e1
      rw [if_neg e1] at hJ5
      refine ZVa (x:=cr.o) (y:=y) o4 w4 (by omega) ⟨b4,b5⟩ ⟨by omega,by omega⟩ λc5 h5 o5 w5=>?_
      refine ZH o5 λk6 h6 o6=>?_
      have r6:Row ZDj (ob k6 (ZDj.enc (ZEt cr.o y (min cr.o.Left y.Left))).cells.toList 396) ⟨some ⟨k6,0,none⟩,1,1⟩ [ZEt cr.o y (min cr.o.Left y.Left)]:=Ze rfl rfl
      have o6':On h6 (df::ob k6 (ZDj.enc (ZEt cr.o y (min cr.o.Left y.Left))).cells.toList 396::c5::ob k1 (ZK.enc (ZAS cr.o (cr.o.Left-min cr.o.Left y.Left))).cells.toList 74::dg::d3::l):=On.pick (l:=ob k6 (ZDj.enc (ZEt cr.o y (min cr.o.Left y.Left))).cells.toList 396::c5::ob k1 (ZK.enc (ZAS cr.o (cr.o.Left-min cr.o.Left y.Left))).cells.toList 74::df::dg::d3::l) o6 [3,0,1,2,4,5] 6 (by decide) (by decide)
      refine ZU (g:=ob k6 (ZDj.enc (ZEt cr.o y (min cr.o.Left y.Left))).cells.toList 396) (s:=zf) (t:=⟨some ⟨k6,0,none⟩,1,1⟩) o6' rfl wf (by decide) r6 (o6'.mem (by simp)) (by unfold ZAR; simp; omega) λd7 p7 n7 m7 h7 o7 w7=>?_
      exact hJ5 (⟨p7,n7,m7⟩,zg) h7 ⟨c5,d7,dg,o7.pick [2,3,0,4,5] 6 (by decide) (by decide),w5,w7,wg⟩
  .have:i=ms.length:=by omega
   subst this
   rw [List.take_length] at o4 w4 wf wg b1
   exact hJ3 (zf,zg) h4 ⟨c4,df,dg,o4,w4,wf,wg,b1⟩
end
theorem ZOP {x y c:Nat} (hc:c<=1) {h:Hp} {K:Int×Int->Prop} (hk:K ((((x+y+c) % 18446744073709551616:Nat):Int),(((x+y+c) / 18446744073709551616:Nat):Int))):
 ZOT TP 378 [Value.int .u64 x,Value.int .u64 y,Value.int .u64 c] (ZW [cI .u64,cI .u64]) h K:=by
 refine ⟨_,λw _=>?_,hk⟩;rw [run_callFunc_extern (P:=Tryz.prog) (f:=378) (fn:=Tryz.f378) (by kernel_rfl) (by kernel_rfl) (by kernel_rfl) (by kernel_rfl) (e:=add64Entry) (by kernel_rfl),run_add64 x y c (by omega) (by omega) (by omega) (by omega)];simp only [Result.andThen];congr 2
theorem ZJL {f:FuncId} {fn:Func} {tS e:TypeId} {size:Nat} (hf:Tryz.prog.funcs[f]?=some fn) (h1:(fn.name == "runtime.NumGoroutine")=false) (h2:fn.body.isNone=true) (h3:Extern.findNext fn=none)
 (h4:Extern.find fn=some (Extern.SlicesOverlaps.overlaps #[tS,tS] #[4])) (ht:Tryz.prog.underlying tS=some (.slice e)) (hz:∀ w,(Go.sizeOf e).run TP w=.ok size w)
 {h:Hp} {k b la ca lb cb off:Nat} {vs us:List Value} {e1 e2:TypeId} {fz:Nat×Nat} (hk:(ob k vs e1).sub h) (hb:h b=some (.cells us.toArray e2 fz)) (hne:k≠b) (hu:us≠[]) {K:Bool->Prop} (hq:K false):
 ZOT TP f [Value.slice (some ⟨k,0,none⟩) la ca,Value.slice (some ⟨b,off,none⟩) lb cb] cB h K:=by
 refine ⟨false,λw hw=>?_,hq⟩
 rw [run_callFunc_extern hf h1 h2 h3 h4]
 have ek:=hw k _ (hk k _ (ZJR k vs e1))
 have eb:=hw b _ hb
 rw [Lib.run_overlaps_apart w tS 4 e ht size hz ⟨k,0,none⟩ ⟨b,off,none⟩ la ca lb cb hne e1 e2 vs.length us.length (by simp [World.shape?,ek]) (by simp [World.shape?,eb]) (by cases us<;>simp_all) (by simp [World.frozen?,ek]) (by simp [World.frozen?,ek])]
 rfl
theorem ZFy {cd:Cdc} {ov rot:FuncId} {e e2:TypeId} {bytes z:Nat} {zero:cd.T} {c h:Hp} {l:List Hp} {s:Sl} {xs:List cd.T} {k i:Nat} {x:cd.T}
 (o:On h (c::ob k (cd.enc x).cells.toList e2::l)) (w:Own cd c s xs) (hm:cd.mem=true) (hn:0<cd.n) (hz:z=cd.n) (hi:i<=xs.length) (hl:xs.length<=1000000) (hb:bytes<=1024)
 (hov:∀ (b off la ca lb cb:Nat) (us:List Value) (e3:TypeId) (fz:Nat×Nat) (K:Bool->Prop),h b=some (.cells us.toArray e3 fz)->k≠b->us≠[]->K false->ZOT TP ov [Value.slice (some ⟨k,0,none⟩) la ca,Value.slice (some ⟨b,off,none⟩) lb cb] cB h K)
 {Q:Sl->Hp->Prop} (hq:∀ s' c' h',On h' (c'::l)->Own cd c' s' (xs.take i++x::xs.drop i)->Q s' h'):
 ZAI s.len s.cap (some (i:Int)) none λk1 k2=>
 ZB ((1:Int)==0) (Q s h)
   (ZB ((i:Int)==(s.len:Int)) (ZX cd e bytes s.a s.len s.cap (some ⟨k,0,none⟩) 1 h fun p1 k3 k4 h1=>Q {a:=p1,len:=k3,cap:=k4} h1)
     (ZB (decide (IntKind.i64.wrap ((s.len:Int)+(1:Int))>(s.cap:Int)))
       (ZAI s.len s.cap none (some (i:Int)) fun k5 k6=>
         ZHp cd zero e bytes (Zm s.a k5 s.cap z) (k6-k5) (s.cap-k5) (IntKind.i64.wrap (IntKind.i64.wrap ((s.len:Int)+(1:Int))-(i:Int))) h fun p2_1 k7 k8 h2=>
           ZAI k7 k8 (some (i:Int)) none fun k9 k10=>
             ZBG cd (Zm p2_1 k9 k8 z) (k10-k9) (some ⟨k,0,none⟩) 1 h2 λn1 h3=>
              ZAI k7 k8 (some (IntKind.i64.wrap ((i:Int)+(1:Int)))) none λk11 k12=>
               ZAI s.len s.cap (some (i:Int)) none λk13 k14=>ZBG cd (Zm p2_1 k11 k8 z) (k12-k11) (Zm s.a k13 s.cap z) (k14-k13) h3 λn2 h4=>Q {a:=p2_1,len:=k7,cap:=k8} h4)
       (ZAI s.len s.cap none (some (IntKind.i64.wrap ((s.len:Int)+(1:Int)))) fun k15 k16=>
         ZAI (k16-k15) (s.cap-k15) (some (IntKind.i64.wrap ((i:Int)+(1:Int)))) none fun k17 k18=>
           ZOT TP ov [Value.slice (some ⟨k,0,none⟩) 1 1,Value.slice (Zm (Zm s.a k15 s.cap z) k17 (s.cap-k15) z) (k18-k17) (s.cap-k15-k17)] cB h fun t1=>
             ZB (!t1)
               (ZAI (k16-k15) (s.cap-k15) (some (IntKind.i64.wrap ((i:Int)+(1:Int)))) none fun k19 k20=>
                 ZAI (k16-k15) (s.cap-k15) (some (i:Int)) none fun k21 k22=>
                   ZBG cd (Zm (Zm s.a k15 s.cap z) k19 (s.cap-k15) z) (k20-k19) (Zm (Zm s.a k15 s.cap z) k21 (s.cap-k15) z) (k22-k21) h fun n3 h5=>
                     ZAI (k16-k15) (s.cap-k15) (some (i:Int)) none λk23 k24=>
                       ZBG cd (Zm (Zm s.a k15 s.cap z) k23 (s.cap-k15) z) (k24-k23) (some ⟨k,0,none⟩) 1 h5 λn4 h6=>Q {a:=Zm s.a k15 s.cap z,len:=k16-k15,cap:=s.cap-k15} h6)
               (ZAI (k16-k15) (s.cap-k15) (some (s.len:Int)) none fun k25 k26=>
                 ZBG cd (Zm (Zm s.a k15 s.cap z) k25 (s.cap-k15) z) (k26-k25) (some ⟨k,0,none⟩) 1 h fun n5 h7=>
                   ZAI (k16-k15) (s.cap-k15) (some (i:Int)) none λk27 k28=>
                     ZA TP rot [Value.slice (Zm (Zm s.a k15 s.cap z) k27 (s.cap-k15) z) (k28-k27) (s.cap-k15-k27),Value.int IntKind.i64 (1:Int)] (ZW []) h7 λu1 h8=>
                 Q {a:=Zm s.a k15 s.cap z,len:=k16-k15,cap:=s.cap-k15} h8)))):=by
 have hlen:s.len=xs.length:=w.1;have hcap:=w.le_cap hn;have hx:Row cd (ob k (cd.enc x).cells.toList e2) ⟨some ⟨k,0,none⟩,1,1⟩ [x]:=Ze (by simp [ZG]) rfl;have e1:IntKind.i64.wrap ((i:Int)+1)=((i+1:Nat):Int):=ZAQ (by omega);have e2':IntKind.i64.wrap ((s.len:Int)+1)=((s.len+1:Nat):Int):=ZAQ (by omega);rw [e1,e2'];refine ⟨by omega,by omega,?_⟩;refine ZT rfl ?_;refine ZD (λhe=>?_) λhne=>?_
 .have he:i=xs.length:=by
   have:(i:Int)=(s.len:Int):=by simpa using he
   omega
  subst he;refine ZU (g:=ob k (cd.enc x).cells.toList e2) (t:=⟨some ⟨k,0,none⟩,1,1⟩) (ys:=[x]) o hm w hn hx (o.mem (by simp)) ?_ λc1 p n m h1 o1 w1=>?_
  .exact Nat.le_trans (Nat.mul_le_mul (Nat.succ_le_succ hl) hb) (by unfold ZAR; omega)
  .exact hq ⟨p,n,m⟩ c1 h1 (o1.sublist (List.Sublist.cons_cons _ (List.sublist_cons_self _ _))) (by simpa using w1)
 ·have hlt:i<xs.length:=by
   have:¬(i:Int)=(s.len:Int):=by simpa using hne
   omega
  have ha0:s.a≠none:=by intro ha;have:=w.2;rw [ha] at this;rw [this.2] at hlt;simp at hlt
  obtain ⟨a,ha⟩:=Option.ne_none_iff_exists'.1 ha0;have htl:(xs.take i).length=i:=by rw [List.length_take]; omega
  have hdl:(xs.drop i).length=xs.length-i:=List.length_drop;have hdrop:∀ cap',Row cd c ⟨Zm s.a i s.cap z,s.len-i,cap'⟩ (xs.drop i):=λcap'=>by have:=(w.row).cut (k:=i) (m:=s.len) (cap':=cap') (by omega) (by omega) hcap hm (z:=z) hz;rw [hlen,List.take_of_length_le (by simp)] at this;rwa [hlen]
  refine ZJ (λhgt=>?_) λhle=>?_
  ·have hgt:s.cap<s.len+1:=by omega
   refine ⟨by omega,by omega,?_⟩;simp only [Int.toNat_natCast,Nat.sub_zero];rw [ZIw];have en:IntKind.i64.wrap (((s.len+1:Nat):Int)-(i:Int))=((s.len+1-i:Nat):Int):=by rw [w64 (by omega) (by omega)]; omega
   rw [en];have r0:Row cd c ⟨s.a,i,s.cap⟩ (xs.take i):=(w.head hm (by omega)).row;refine ZT5 (g:=c) o (o.mem (by simp)) r0 (by omega) (by omega) ?_ λnb nc d h2 o2 w2 hnc=>?_
   .exact Nat.le_trans (Nat.mul_le_mul (show i+(((s.len+1-i:Nat):Int)).toNat<=1000001 by omega) hb) (by unfold ZAR; omega)
   ·have en2:i+(((s.len+1-i:Nat):Int)).toNat=s.len+1:=by omega
    rw [en2] at hnc ⊢;refine ⟨by omega,by omega,?_⟩;have ec:∀ j,j<nc->Zm (some ⟨nb,0,none⟩) j nc z=some ((⟨nb,0,none⟩:Addr).add (j*cd.n)):=λj hj=>by unfold Zm;rw [if_neg (by omega),hz];rfl
    simp only [Int.toNat_natCast];rw [ec i (by omega)]
    have key:=ZHq (g:=ob k (cd.enc x).cells.toList e2) (s:=⟨some ⟨nb,0,none⟩,i,nc⟩) (dlen:=s.len+1-i) (n:=1) (cap0:=1) (ys:=[x]) (src:=some ⟨k,0,none⟩) o2 hm w2 (a:=⟨nb,0,none⟩) rfl (by rw [show min 1 (s.len+1-i)=1 by omega]; exact hx) (o2.mem (by simp)) (by rw [htl]; simp only [List.length_singleton]; omega)
         (K:=λn1 h3=>ZAI (s.len+1) nc (some ((i+1:Nat):Int)) none λk11 k12=>ZAI s.len s.cap (some (i:Int)) none λk13 k14=>ZBG cd (Zm (some ⟨nb,0,none⟩) k11 nc z) (k12-k11) (Zm s.a k13 s.cap z) (k14-k13) h3 λn2 h4=>Q {a:=some ⟨nb,0,none⟩,len:=s.len+1,cap:=nc} h4) λc3 h3 o3 w3=>?_
    .rw [htl] at key;exact key
    ·refine ⟨by omega,by omega,by omega,by omega,?_⟩;simp only [Int.toNat_natCast];rw [ec (i+1) (by omega)];have hl3:(xs.take i++[x]).length=i+1:=by rw [List.length_append,htl]; rfl
     have key2:=ZHq (g:=c) (s:=⟨some ⟨nb,0,none⟩,(xs.take i).length+[x].length,nc⟩) (dlen:=s.len+1-(i+1)) (n:=s.len-i) (cap0:=s.cap) (ys:=xs.drop i) (src:=Zm s.a i s.cap z) o3 hm w3 (a:=⟨nb,0,none⟩) rfl (by rw [show min (s.len-i) (s.len+1-(i+1))=s.len-i by omega]; exact hdrop _) (o3.mem (by simp)) (by rw [hl3,hdl]; dsimp only; omega)
          (K:=λn2 h4=>Q {a:=some ⟨nb,0,none⟩,len:=s.len+1,cap:=nc} h4) λc4 h4 o4 w4=>?_
     .rw [hl3] at key2;exact key2
     .rw [hl3,hdl,show i+1+(xs.length-i)=s.len+1 by omega,List.append_assoc] at w4;exact hq _ c4 h4 (o4.sublist (List.Sublist.cons_cons _ ((List.sublist_cons_self _ _).trans (List.sublist_cons_self _ _)))) w4
  ·have hcap1:s.len+1≤s.cap:=by omega
   refine ⟨by omega,by omega,?_⟩;simp only [Int.toNat_natCast,Nat.sub_zero];rw [ZIw];refine ⟨by omega,by omega,?_⟩;simp only [Int.toNat_natCast];have ec:∀ j,j<s.cap->Zm s.a j s.cap z=some (a.add (j*cd.n)):=λj hj=>by unfold Zm;rw [if_neg (by omega),hz,ha];rfl
   rw [ec (i+1) (by omega)];have hwa:=w.2;rw [ha] at hwa;obtain ⟨hsp,pre,rest,ZBo,e3,fz,hus,hpl,hrl,_⟩:=hwa;rw [ZBH hsp];refine hov a.block (a.off+(i+1)*cd.n) _ _ _ _ (pre++(ZG cd xs++(rest++ZBo))) e3 fz _ ?_ ?_ ?_ ?_
   .exact o.mem (c:=c) (by simp) _ _ hus
   .intro hk;have:=(o.apart (d:=ob k (cd.enc x).cells.toList e2) (by simp)) a.block;rw [hus] at this;rw [<-hk,ZJR] at this;simp at this
   .intro hnil;have hr0:rest.length=0:=by have:=congrArg List.length hnil;simp only [List.length_append,List.length_nil] at this;omega
    rw [hr0,Nat.add_zero] at hrl;have:=Nat.eq_of_mul_eq_mul_right hn hrl;omega
   ·refine Zh rfl ?_;refine ⟨by omega,by omega,by omega,by omega,?_⟩;simp only [Int.toNat_natCast];rw [ec (i+1) (by omega)];have w0:Own cd c ⟨s.a,i+1,s.cap⟩ (xs.take (i+1)):=w.head hm (by omega);have htl1:(xs.take (i+1)).length=i+1:=by rw [List.length_take]; omega
    have key:=ZHq (g:=c) (s:=⟨s.a,i+1,s.cap⟩) (dlen:=s.len+1-(i+1)) (n:=s.len+1-i) (cap0:=s.cap) (ys:=xs.drop i) (src:=Zm s.a i s.cap z) o hm w0 (a:=a) ha (by rw [show min (s.len+1-i) (s.len+1-(i+1))=s.len-i by omega]; exact hdrop _) (o.mem (by simp)) (by rw [htl1,hdl]; dsimp only; omega)
         (K:=λn3 h5=>ZAI (s.len+1) s.cap (some (i:Int)) none λk23 k24=>ZBG cd (Zm s.a k23 s.cap z) (k24-k23) (some ⟨k,0,none⟩) 1 h5 λn4 h6=>Q {a:=s.a,len:=s.len+1,cap:=s.cap} h6) λc3 h3 o3 w3=>?_
    .rw [htl1] at key;exact key
    .refine ⟨by omega,by omega,?_⟩;simp only [Int.toNat_natCast];rw [ec i (by omega)];rw [htl1,hdl,show i+1+(xs.length-i)=s.len+1 by omega] at w3;refine ZN9 (g:=ob k (cd.enc x).cells.toList e2) (cap0:=1) (ys:=[x]) o3 hm w3 (a:=a) ha (by rw [show min 1 (s.len+1-i)=1 by omega]; exact hx) (o3.mem (by simp)) (by rw [List.length_append,htl1,hdl]; simp only [List.length_singleton]; omega) λc4 h4 o4 w4=>?_;refine hq _ c4 h4 (o4.sublist (List.Sublist.cons_cons _ (List.sublist_cons_self _ _))) ?_;have e5:(xs.take (i+1)++xs.drop i).take i=xs.take i:=by rw [List.take_append_of_le_length (by omega),List.take_take];congr 1; omega
     have e6:(xs.take (i+1)++xs.drop i).drop (i+[x].length)=xs.drop i:=by rw [List.drop_append_of_le_length (by rw [htl1]; simp),List.drop_eq_nil_of_le (by rw [htl1]; simp),List.nil_append]
     rw [e5,e6] at w4;exact w4
section
variable {h:Hp} {l:List Hp} {c:Hp} {s:Sl} {k i:Nat}
theorem ZOq {xs:List Ask} {x:Ask} {e2:TypeId} (o:On h (c::ob k (ZAb.enc x).cells.toList e2::l)) (w:Own ZAb c s xs) (hi:i<=xs.length) (hl:xs.length<=1000000) {Q:Sl->Hp->Prop} (hq:∀ s' c' h',On h' (c'::l)->Own ZAb c' s' (xs.take i++x::xs.drop i)->Q s' h'):
 ZA TP 297 [Value.slice s.a s.len s.cap,Value.int .i64 i,Value.slice (some ⟨k,0,none⟩) 1 1] cSl h Q:=by
 refine c297 (p0:=s) (p1:=i) (p2:=⟨some ⟨k,0,none⟩,1,1⟩) ?_;unfold F297;refine ZFy (cd:=ZAb) (z:=10) (zero:=⟨0,0,0,0,0,0,0,0,0,0⟩) o w rfl (by decide) rfl hi hl (by decide) (λb off la ca lb cb us e3 fz K hb hne hu hq=>?_) hq;exact ZJL (fn:=Tryz.f341) (tS:=46) (e:=50) (size:=10) (by kernel_rfl) (by kernel_rfl) (by kernel_rfl) (by kernel_rfl) (by kernel_rfl) (by kernel_rfl) (λw=>by kernel_rfl) (o.mem (c:=ob k (ZAb.enc x).cells.toList e2) (by simp)) hb hne hu hq
theorem ZP2 {xs:List Za} {x:Za} {e2:TypeId} (o:On h (c::ob k (ZS.enc x).cells.toList e2::l)) (w:Own ZS c s xs) (hi:i<=xs.length) (hl:xs.length<=1000000) {Q:Sl->Hp->Prop} (hq:∀ s' c' h',On h' (c'::l)->Own ZS c' s' (xs.take i++x::xs.drop i)->Q s' h'):
 ZA TP 282 [Value.slice s.a s.len s.cap,Value.int .i64 i,Value.slice (some ⟨k,0,none⟩) 1 1] cSl h Q:=by
 refine c282 (p0:=s) (p1:=i) (p2:=⟨some ⟨k,0,none⟩,1,1⟩) ?_;unfold F282;refine ZFy (cd:=ZS) (z:=6) (zero:=⟨0,0,0,0,0,false⟩) o w rfl (by decide) rfl hi hl (by decide) (λb off la ca lb cb us e3 fz K hb hne hu hq=>?_) hq;exact ZJL (fn:=Tryz.f324) (tS:=124) (e:=207) (size:=6) (by kernel_rfl) (by kernel_rfl) (by kernel_rfl) (by kernel_rfl) (by kernel_rfl) (by kernel_rfl) (λw=>by kernel_rfl) (o.mem (c:=ob k (ZS.enc x).cells.toList e2) (by simp)) hb hne hu hq
theorem ZPl {xs:List Due} {x:Due} {e2:TypeId} (o:On h (c::ob k (ZBk.enc x).cells.toList e2::l)) (w:Own ZBk c s xs) (hi:i<=xs.length) (hl:xs.length<=1000000) {Q:Sl->Hp->Prop} (hq:∀ s' c' h',On h' (c'::l)->Own ZBk c' s' (xs.take i++x::xs.drop i)->Q s' h'):
 ZA TP 285 [Value.slice s.a s.len s.cap,Value.int .i64 i,Value.slice (some ⟨k,0,none⟩) 1 1] cSl h Q:=by
 refine c285 (p0:=s) (p1:=i) (p2:=⟨some ⟨k,0,none⟩,1,1⟩) ?_;unfold F285;refine ZFy (cd:=ZBk) (z:=3) (zero:=⟨0,0,0⟩) o w rfl (by decide) rfl hi hl (by decide) (λb off la ca lb cb us e3 fz K hb hne hu hq=>?_) hq;exact ZJL (fn:=Tryz.f328) (tS:=129) (e:=197) (size:=3) (by kernel_rfl) (by kernel_rfl) (by kernel_rfl) (by kernel_rfl) (by kernel_rfl) (by kernel_rfl) (λw=>by kernel_rfl) (o.mem (c:=ob k (ZBk.enc x).cells.toList e2) (by simp)) hb hne hu hq
end
theorem ZSR {a b:Int}:(ZDW a b==0)=(a==b):=by
 unfold ZDW;by_cases h:a<b
 .rw [if_pos h]; rw [Bool.eq_iff_iff]; simp; omega
 .rw [if_neg h];by_cases h2:b<a
  .rw [if_pos h2]; rw [Bool.eq_iff_iff]; simp; omega
  .rw [if_neg h2]; rw [Bool.eq_iff_iff]; simp; omega
theorem ZGt {a b:Int}:ZDW a b<0↔a<b:=by unfold ZDW; split<;>(try split)<;>omega
def Srt {α:Type} (key:α->Int) (xs:List α):Prop:=xs.Pairwise λx y=>key x<key y
theorem Srt.cut {α:Type} {key:α->Int} {xs:List α} (hs:Srt key xs) {j:Nat} (hj:j<xs.length):(∀ x∈xs.take j,key x<key xs[j])/\∀ x∈xs.drop j,key xs[j]<=key x:=by
 have hp:=List.pairwise_iff_getElem.1 hs;refine ⟨λx hx=>?_,λx hx=>?_⟩
 .obtain ⟨m,hm,rfl⟩:=List.mem_take_iff_getElem.1 hx;exact hp m j (by omega) hj (by omega)
 .obtain ⟨m,hm,rfl⟩:=List.mem_drop_iff_getElem.1 hx;rcases Nat.eq_zero_or_pos m with h0|h0
  .subst h0; simp
  .exact Int.le_of_lt (hp j (j+m) hj (by omega) (by omega))
theorem ZNR {α:Type} {key:α→Int} {xs:List α} (hs:Srt key xs) {id:Int} {i:Nat} (hi:i≤xs.length)
 (hk:∀ k,(∀ x∈xs.take k,ZDW (key x) id<0)->(∀ x∈xs.drop k,0<=ZDW (key x) id)->k<=xs.length->i=k):
 ((xs[i]?).map λx=>ZDW (key x) id==0).getD false=(xs.findIdx? λx=>key x==id).isSome/\(∀ j,(xs.findIdx? λx=>key x==id)=some j->i=j)/\((∀ x∈xs,key x<id)->i=xs.length):=by
 have h2:∀ j,(xs.findIdx? λx=>key x==id)=some j->i=j:=by
  intro j hj;obtain ⟨x,hx,_,he,hlt,_⟩:=ZAk hj;have hxj:xs[j]=x:=by have:=List.getElem?_eq_getElem hlt;rw [hx] at this;exact (Option.some.inj this).symm
  have hid:key xs[j]=id:=by rw [hxj]; simpa using he
  obtain ⟨c1,c2⟩:=hs.cut hlt;refine hk j (λy hy=>ZGt.2 (by rw [<-hid]; exact c1 y hy)) (λy hy=>?_) (by omega);have:=c2 y hy;have hn:=(ZGt (a:=key y) (b:=id))
  omega
 refine ⟨?_,h2,λhall=>hk xs.length (λy hy=>ZGt.2 (hall y (List.mem_of_mem_take hy))) (λy hy=>by rw [List.drop_length] at hy; cases hy) (Nat.le_refl _)⟩;cases hf:xs.findIdx? λx=>key x==id with
 | some j=>
   have hij:=h2 j hf;subst hij;obtain ⟨x,hx,_,he,_,_⟩:=ZAk hf;rw [hx];show (ZDW (key x) id==0)=true;rw [ZSR]; exact he
 | none=>
   have hno:=List.findIdx?_eq_none_iff.1 hf;cases hx:xs[i]? with
   | none=>rfl
   | some x=>
     show (ZDW (key x) id==0)=false;rw [ZSR];exact hno x (List.mem_of_getElem? hx)
def upd {α:Type} (key:α->Int) (id:Int) (f:α->α) (xs:List α):List α:=xs.map λx=>if key x=id then f x else x
theorem ZEv {α:Type} {key:α→Int} {xs:List α} (hs:Srt key xs) {id:Int} {f:α→α} {j:Nat} {x:α} (hj:(xs.findIdx? fun x=>key x==id)=some j) (hx:xs[j]?=some x):xs.set j (f x)=upd key id f xs:=by
 obtain ⟨y,hy,_,he,hlt,_⟩:=ZAk hj;rw [hx] at hy;cases hy;have hp:=List.pairwise_iff_getElem.1 hs;have hxj:xs[j]=x:=by have:=List.getElem?_eq_getElem hlt;rw [hx] at this;exact (Option.some.inj this).symm
 have he:key xs[j]=id:=by rw [hxj]; simpa using he
 unfold upd;apply List.ext_getElem
 .simp
 .intro m h1 h2;simp only [List.length_map] at h2;rw [List.getElem_map,List.getElem_set];by_cases hm:j=m
  .subst hm;rw [if_pos rfl,if_pos he,hxj]
  .rw [if_neg hm,if_neg];intro hme;rcases Nat.lt_or_ge j m with h|h
   .have:=hp j m hlt h2 h; omega
   .have:=hp m j h2 hlt (by omega); omega
theorem upd_none {α:Type} {key:α->Int} {xs:List α} {id:Int} {f:α->α} (hj:(xs.findIdx? λx=>key x==id)=none):upd key id f xs=xs:=by
 have hno:=List.findIdx?_eq_none_iff.1 hj;unfold upd;conv=>rhs; rw [<-List.map_id xs]
 apply List.map_congr_left;intro x hx;have:=hno x hx;rw [if_neg (by simpa using this)]; rfl
theorem ZTE {α:Type} (key:α->Int) (id:Int) (f:α->α) (xs:List α):(upd key id f xs).length=xs.length:=List.length_map _
theorem Srt.upd {α:Type} {key:α->Int} {xs:List α} (hs:Srt key xs) (id:Int) {f:α->α} (hf:∀ x,key (f x)=key x):Srt key (upd key id f xs):=by unfold Srt at*;unfold Go.Proofs.YtkmniidiifpdgaaGreat.upd;rw [List.pairwise_map];refine List.Pairwise.imp (λ{x y} hxy=>?_) hs;split<;>split<;>(try simp only [hf])<;>exact hxy
abbrev ZA1:=ZAZ ZAb 174
def ZPO:Ask:=⟨0,0,0,0,0,0,0,0,0,0⟩
def getA (xs:List Ask) (id:Int):Option Ask:=xs.find? λx=>x.ID==id
def ZLF {α:Type} (z:α):Option α->α×Bool
 | none=>(z,false)
 | some x=>(x,true)
section
variable {p:Option Addr} {xs:List Ask} {c h:Hp} {l:List Hp} {id:Int}
theorem ZJg (o:On h (c::l)) (w:ZA1 p xs c) (hs:Srt Ask.ID xs) (hl:xs.length<=1000000) {Q:Int×Bool->Hp->Prop}
 (hq:∀ (i:Nat) c' h',On h' (c'::l)->ZA1 p xs c'->i<=xs.length->(∀ j,(xs.findIdx? λx=>x.ID==id)=some j->i=j)->((∀ x∈xs,x.ID<id)->i=xs.length)->Q ((i:Int),(xs.findIdx? λx=>x.ID==id).isSome) h'):
 ZA TP 140 [Value.pointer p,Value.int .i64 id] (ZW [cI .i64,cB]) h Q:=by
 obtain ⟨b,sl,d,rfl,oc,wd⟩:=w;refine c140 ?_;unfold F140;refine ZT rfl ?_;have o1:=o.split oc;dsimp only [ZR];refine ZI (x:=sl) o1 0 rfl rfl ?_;refine ZPR (f:=⟨223,#[],#[]⟩) (ZYn (id:=id)) o1 (by simp) (g:=d) (by simp) wd.row hl λi h2 hi hk o2=>?_;obtain ⟨e1,e2,e3⟩:=ZNR (key:=Ask.ID) hs hi hk;obtain ⟨c2,o3,w3⟩:=ZAZ.close o2 wd;rw [e1];exact hq i c2 h2 o3 w3 hi e2 e3
theorem ZWI (o:On h (c::l)) (w:ZA1 p xs c) (hs:Srt Ask.ID xs) (hl:xs.length≤1000000) {Q:Ask×Bool→Hp→Prop} (hq:∀ c' h',On h' (c'::l)→ZA1 p xs c'→Q (ZLF ZPO (getA xs id)) h'):
 ZA TP 81 [Value.pointer p,Value.int .i64 id] (ZW [ZAb,cB]) h Q:=by
 refine c81 ?_;unfold F81;refine ZJg o w hs hl λi c1 h1 o1 w1 hi hj _=>?_;have hq2:=hq c1 h1 o1 w1;clear hq;unfold getA at hq2;cases hf:xs.findIdx? λx=>x.ID==id with
 | none=>
   rw [(ZCL hf).1] at hq2;exact Zh rfl hq2
 | some j=>
   have:=hj j hf;subst this;obtain ⟨x,hx,hg,_,hlt,_⟩:=ZAk hf;rw [hg] at hq2;obtain ⟨b,sl,d,rfl,oc,wd⟩:=w1;refine ZT rfl ?_;have o2:=o1.split oc;dsimp only [ZR];refine ZI (x:=sl) o2 0 rfl rfl ?_;exact ZL wd.row (Int.natCast_nonneg i) (by omega) λa ha=>ZO wd.row (o2.mem (by simp)) rfl ha (i:=i) hx (by rfl) hq2
theorem ZWc (o:On h (c::l)) (w:ZA1 p xs c) (hl:xs.length<=1000000) {Q:Sl->Hp->Prop} (hq:∀ s c' d h',On h' (c'::d::l)->ZA1 p xs c'->Own ZAb d s xs->Q s h'):
 ZA TP 45 [Value.pointer p] cSl h Q:=by
 obtain ⟨b,sl,d,rfl,oc,wd⟩:=w;refine c45 ?_;unfold F45;refine ZT rfl ?_;have o1:=o.split oc;dsimp only [ZR];refine ZI (x:=sl) o1 0 rfl rfl ?_;refine ZQf o1 (g:=d) (by simp) wd.row hl λs d2 h2 o2 w2=>?_;have o3:On h2 (ob b [sv sl] 174::d::d2::l):=o2.perm ((List.Perm.swap _ _ _).trans ((List.Perm.swap _ _ _).cons _));obtain ⟨c2,o4,w4⟩:=ZAZ.close o3 wd;exact hq s c2 d2 h2 o4 w4 w2
theorem ZSH (o:On h (c::l)) (w:ZA1 p xs c) (hs:Srt Ask.ID xs) (hl:xs.length≤1000000) {Q:Option Addr×Int→Hp→Prop}
 (hq0:∀ c' h',On h' (c'::l)->ZA1 p xs c'->getA xs id=none->(xs.findIdx? λx=>x.ID==id)=none->Q (none,4) h')
 (hq1:∀ (i:Nat) (x:Ask) (a:Addr) (b:Nat) (sl:Sl) (d h':Hp),p=some ⟨b,0,none⟩->On h' (ob b [sv sl] 174::d::l)->Own ZAb d sl xs->sl.a=some a->xs[i]?=some x->getA xs id=some x->(xs.findIdx? λx=>x.ID==id)=some i->Q (some (a.add (i*10)),0) h'):
 ZA TP 226 [Value.pointer p,Value.int .i64 id] (ZW [cP,cI .i64]) h Q:=by
 refine c226 ?_;unfold F226;refine ZJg o w hs hl λi c1 h1 o1 w1 hi hj _=>?_;cases hf:xs.findIdx? λx=>x.ID==id with
 | none=>exact Zh rfl (hq0 c1 h1 o1 w1 (ZCL hf).1 hf)
 | some j=>
   have:=hj j hf;subst this;obtain ⟨x,hx,hg,_,hlt,_⟩:=ZAk hf;obtain ⟨b,sl,d,hp,oc,wd⟩:=w1;have hq1:=hq1 i x;rw [hp];refine ZT rfl ?_;have o2:=o1.split oc;dsimp only [ZR];refine ZI (x:=sl) o2 0 rfl rfl ?_;exact ZL wd.row (Int.natCast_nonneg i) (by omega) λa ha=>hq1 a b sl d h1 hp o2 wd ha hx hg hf
end
def ZXh (q u:Int) (a:Ask):Ask:={a with State:=2,Hit:=q,Until:=u}
def ZXs (a:Ask):Ask:={a with State:=1,Hit:=0,Until:=0}
def ZXP (st:Int) (a:Ask):Ask:={a with State:=st,Until:=0,Hit:=if st=4 then 0 else a.Hit}
def ZDX (xs:List Ask) (id q u:Int):List Ask×Int:=match getA xs id with
 | none=>(xs,4)
 | some a=>if a.State≠1 then (xs,11) else if q<1\/u<1 then (xs,1) else (upd Ask.ID id (ZXh q u) xs,0)
def ZGl (xs:List Ask) (id:Int):List Ask×Int:=match getA xs id with
 | none=>(xs,4)
 | some a=>if a.State≠2 then (xs,11) else (upd Ask.ID id ZXs xs,0)
def ZRe (xs:List Ask) (id st:Int):List Ask×Int:=match getA xs id with
 | none=>(xs,4)
 | some a=>if st≠3/\st≠4 then (xs,1) else if a.State=3\/a.State=4\/(st=3/\a.State≠2) then (xs,11) else (upd Ask.ID id (ZXP st) xs,0)
def ZEB (a:Ask):Bool:=a.State==1||a.State==2
def ZOW (a:Ask):Bool:=decide (a.ID>=1)&&(decide (a.Qty>=1)&&(decide (a.Client>=0)&&(decide (a.Bond>=0)&&(ZBZ a.Side&&(a.Dealers != 0&&(a.State==1&&(a.Hit==0&&a.Until==0)))))))
def ZIg (xs:List Ask) (a:Ask):List Ask×Int:=
 if (xs.findIdx? λx=>x.ID==a.ID).isSome=true\/ZOW a=false then (xs,1) else if 32<=(xs.filter ZEB).length then (xs,3) else (xs++[a],0)
theorem _root_.Go.Eng.Own.part_at {cd:Cdc} {c:Hp} {s:Sl} {xs:List cd.T} (w:Own cd c s xs) {a:Addr} (ha:s.a=some a) {m:Nat} (n:Nat):(⟨(a.add m).block,(a.add m).off+n,none⟩:Addr)=(a.add m).add n:=by
 have hsp:a.spot=none:=by have:=w.2;rw [ha] at this;exact this.1
 rw [ZBH hsp,ZCY]
section
variable {p:Option Addr} {xs:List Ask} {c h:Hp} {l:List Hp} {id:Int}
theorem ZT1 {q u:Int} (o:On h (c::l)) (w:ZA1 p xs c) (hs:Srt Ask.ID xs) (hl:xs.length≤1000000) {Q:Int→Hp→Prop} (hq:∀ c' h',On h' (c'::l)→ZA1 p (ZDX xs id q u).1 c'→Q (ZDX xs id q u).2 h'):
 ZA TP 287 [Value.pointer p,Value.int .i64 id,Value.int .i64 q,Value.int .i64 u] (cI .i64) h Q:=by
 refine c287 ?_;unfold F287;unfold ZDX at hq;refine ZSH o w hs hl (λc1 h1 o1 w1 hn hf=>?_) λi x a b sl d h1 hp o1 wd ha hx hg hf=>?_
 .rw [hn] at hq;exact Zh rfl (hq c1 h1 o1 w1)
 ·rw [hg] at hq;dsimp only at hq;refine ZT rfl ?_;dsimp only [ZR];have e:=wd.part_at ha (m:=i*10);simp only [e];refine Zg (cd:=ZAb) (cf:=cI .i64) wd.row (o1.mem (by simp)) rfl ha (i:=i) hx rfl (k:=8) (y:=x.State) rfl ?_;refine ZD (fun hne=>?_) fun heq=>?_
  .rw [if_pos (by simpa using hne)] at hq;obtain ⟨c2,o2,w2⟩:=ZAZ.close o1 wd;exact hq c2 h1 o2 (hp▸w2)
  .rw [if_neg (by simpa using heq)] at hq;refine ZN (λt h'=>h'=h1/\t=decide (q<1\/u<1)) ?_ λJ hJ=>?_
   .rintro t h' ⟨rfl,rfl⟩;refine ZJ (λhc=>?_) λhc=>?_
    .rw [if_pos hc] at hq;obtain ⟨c2,o2,w2⟩:=ZAZ.close o1 wd;exact hq c2 h' o2 (hp▸w2)
    .rw [if_neg hc] at hq;have hlt:i<xs.length:=(List.getElem?_eq_some_iff.1 hx).1;refine ZAC (cd:=ZAb) (cf:=cI .i64) o1.swap rfl rfl wd ha (i:=i) (x0:=x) hx (m:=i*10) rfl (k:=8) (y:=2) (x':={x with State:=2}) rfl (by decide) λc3 h3 o3 w3=>?_;refine ZAC (cd:=ZAb) (cf:=cI .i64) o3 rfl rfl w3 ha (i:=i) (x0:={x with State:=2}) (List.getElem?_set_self hlt) (m:=i*10) rfl (k:=9) (y:=q) (x':={x with State:=2,Hit:=q}) rfl (by decide) λc4 h4 o4 w4=>?_;rw [List.set_set] at w4;refine ZAC (cd:=ZAb) (cf:=cI .i64) o4 rfl rfl w4 ha (i:=i) (x0:={x with State:=2,Hit:=q}) (List.getElem?_set_self hlt) (m:=i*10) rfl (k:=7) (y:=u) (x':=ZXh q u x) rfl (by decide) λc5 h5 o5 w5=>?_;rw [List.set_set,ZEv hs hf hx] at w5;obtain ⟨c6,o6,w6⟩:=ZAZ.close o5.swap w5;exact hq c6 h5 o6 (hp▸w6)
   .refine ZJ (λhc=>hJ _ _ ⟨rfl,(decide_eq_true (.inl hc)).symm⟩) λhc=>hJ _ _ ⟨rfl,?_⟩;exact decide_eq_decide.2 (by omega)
theorem ZUt (o:On h (c::l)) (w:ZA1 p xs c) (hs:Srt Ask.ID xs) (hl:xs.length<=1000000) {Q:Int->Hp->Prop} (hq:∀ c' h',On h' (c'::l)->ZA1 p (ZGl xs id).1 c'->Q (ZGl xs id).2 h'):
 ZA TP 142 [Value.pointer p,Value.int .i64 id] (cI .i64) h Q:=by
 refine c142 ?_;unfold F142;unfold ZGl at hq;refine ZSH o w hs hl (λc1 h1 o1 w1 hn hf=>?_) λi x a b sl d h1 hp o1 wd ha hx hg hf=>?_
 .rw [hn] at hq;exact Zh rfl (hq c1 h1 o1 w1)
 .rw [hg] at hq;dsimp only at hq;refine ZT rfl ?_;dsimp only [ZR];have e:=wd.part_at ha (m:=i*10);simp only [e];refine Zg (cd:=ZAb) (cf:=cI .i64) wd.row (o1.mem (by simp)) rfl ha (i:=i) hx rfl (k:=8) (y:=x.State) rfl ?_;refine ZD (λhne=>?_) λheq=>?_
  .rw [if_pos (by simpa using hne)] at hq;obtain ⟨c2,o2,w2⟩:=ZAZ.close o1 wd;exact hq c2 h1 o2 (hp▸w2)
  .rw [if_neg (by simpa using heq)] at hq;have hlt:i<xs.length:=(List.getElem?_eq_some_iff.1 hx).1;refine ZAC (cd:=ZAb) (cf:=cI .i64) o1.swap rfl rfl wd ha (i:=i) (x0:=x) hx (m:=i*10) rfl (k:=8) (y:=1) (x':={x with State:=1}) rfl (by decide) λc3 h3 o3 w3=>?_;refine ZAC (cd:=ZAb) (cf:=cI .i64) o3 rfl rfl w3 ha (i:=i) (x0:={x with State:=1}) (List.getElem?_set_self hlt) (m:=i*10) rfl (k:=9) (y:=0) (x':={x with State:=1,Hit:=0}) rfl (by decide) λc4 h4 o4 w4=>?_;rw [List.set_set] at w4;refine ZAC (cd:=ZAb) (cf:=cI .i64) o4 rfl rfl w4 ha (i:=i) (x0:={x with State:=1,Hit:=0}) (List.getElem?_set_self hlt) (m:=i*10) rfl (k:=7) (y:=0) (x':=ZXs x) rfl (by decide) λc5 h5 o5 w5=>?_;rw [List.set_set,ZEv hs hf hx] at w5;obtain ⟨c6,o6,w6⟩:=ZAZ.close o5.swap w5;exact hq c6 h5 o6 (hp▸w6)
theorem ZXX {st:Int} (o:On h (c::l)) (w:ZA1 p xs c) (hs:Srt Ask.ID xs) (hl:xs.length≤1000000) {Q:Int→Hp→Prop} (hq:∀ c' h',On h' (c'::l)→ZA1 p (ZRe xs id st).1 c'→Q (ZRe xs id st).2 h'):
 ZA TP 143 [Value.pointer p,Value.int .i64 id,Value.int .i64 st] (cI .i64) h Q:=by
 refine c143 ?_;unfold F143;unfold ZRe at hq;refine ZSH o w hs hl (λc1 h1 o1 w1 hn hf=>?_) λi x a b sl d h1 hp o1 wd ha hx hg hf=>?_
 .rw [hn] at hq;exact Zh rfl (hq c1 h1 o1 w1)
 ·rw [hg] at hq;dsimp only at hq;refine ZT rfl ?_;dsimp only [ZR];have e:=wd.part_at ha (m:=i*10);simp only [e];have shut:∀ {r:Int},(∀ c' h',On h' (c'::l)→ZA1 p xs c'→Q r h')→Q r h1:=fun hq=>by obtain ⟨c2,o2,w2⟩:=ZAZ.close o1 wd;exact hq c2 h1 o2 (hp▸w2)
  refine ZN (λt h'=>h'=h1/\t=decide (st≠3/\st≠4)) ?_ λJ hJ=>?_
  ·rintro t h' ⟨rfl,rfl⟩;refine ZJ (fun hc=>?_) fun hc=>?_
   .rw [if_pos hc] at hq;exact shut hq
   ·rw [if_neg hc] at hq;refine ZN (fun t h2=>h2=h'∧t=decide (x.State=3∨x.State=4∨(st=3∧x.State≠2))) ?_ fun J2 hJ2=>?_
    ·rintro t h2 ⟨rfl,rfl⟩;refine ZJ (fun hc2=>?_) fun hc2=>?_
     .rw [if_pos hc2] at hq;exact shut hq
     .rw [if_neg hc2] at hq;have hlt:i<xs.length:=(List.getElem?_eq_some_iff.1 hx).1;refine ZAC (cd:=ZAb) (cf:=cI .i64) o1.swap rfl rfl wd ha (i:=i) (x0:=x) hx (m:=i*10) rfl (k:=8) (y:=st) (x':={x with State:=st}) rfl (by decide) λc3 h3 o3 w3=>?_;refine ZAC (cd:=ZAb) (cf:=cI .i64) o3 rfl rfl w3 ha (i:=i) (x0:={x with State:=st}) (List.getElem?_set_self hlt) (m:=i*10) rfl (k:=7) (y:=0) (x':={x with State:=st,Until:=0}) rfl (by decide) λc4 h4 o4 w4=>?_;rw [List.set_set] at w4;refine ZD (λh4'=>?_) λh4'=>?_
      .have h4':st=4:=by simpa using h4'
       refine ZAC (cd:=ZAb) (cf:=cI .i64) o4 rfl rfl w4 ha (i:=i) (x0:={x with State:=st,Until:=0}) (List.getElem?_set_self hlt) (m:=i*10) rfl (k:=9) (y:=0) (x':=ZXP st x) (by unfold ZXP; rw [if_pos h4']; rfl) (by decide) λc5 h5 o5 w5=>?_;rw [List.set_set,ZEv hs hf hx] at w5;obtain ⟨c6,o6,w6⟩:=ZAZ.close o5.swap w5;exact hq c6 h5 o6 (hp▸w6)
      .have h4':¬st=4:=by simpa using h4'
       have e5:({x with State:=st,Until:=0}:Ask)=ZXP st x:=by unfold ZXP; rw [if_neg h4']
       rw [e5,ZEv hs hf hx] at w4;obtain ⟨c6,o6,w6⟩:=ZAZ.close o4.swap w4;exact hq c6 h4 o6 (hp▸w6)
    .have ld:∀ {K:Int->Prop},K x.State->ZC (cI .i64) ((a.add (i*10)).add 8) h' K:=λhk=>Zg (cd:=ZAb) (cf:=cI .i64) wd.row (o1.mem (by simp)) rfl ha (i:=i) hx rfl (k:=8) (y:=x.State) rfl hk;refine ld (ZD (λh3=>hJ2 _ _ ⟨rfl,(decide_eq_true (.inl (by simpa using h3))).symm⟩) λh3=>?_);refine ld (ZD (λh4=>hJ2 _ _ ⟨rfl,(decide_eq_true (.inr (.inl (by simpa using h4)))).symm⟩) λh4=>?_);have h3:¬x.State=3:=by simpa using h3
     have h4:¬x.State=4:=by simpa using h4
     refine ZD (λh5=>?_) λh5=>?_
     .have h5:st=3:=by simpa using h5
      refine ld (hJ2 _ _ ⟨rfl,?_⟩);rw [Bool.eq_iff_iff];simp [h3,h4,h5]
     .have h5:¬st=3:=by simpa using h5
      exact hJ2 _ _ ⟨rfl,by simp [h3,h4,h5]⟩
  .refine ZD (λh3=>?_) λh3=>?_
   .have h3:st≠3:=by simpa using h3
    exact hJ _ _ ⟨rfl,by rw [Bool.eq_iff_iff]; simp [h3]⟩
   .have h3:st=3:=by simpa using h3
    exact hJ _ _ ⟨rfl,by simp [h3]⟩
theorem ZR6 {x:Ask} {h:Hp} {Q:Bool->Hp->Prop} (hq:Q (ZOW x) h):ZA TP 295 [ZAb.enc x] cB h Q:=by
 refine c295 ?_;unfold F295;unfold ZOW at hq;refine ZD (λe1=>ZD (λe2=>ZD (λe3=>ZD (λe4=>ZDF (ZD (λe5=>ZD (λe6=>ZD (λe7=>ZD (λe8=>?_) λe=>?_) λe=>?_) λe=>?_) λe=>?_)) λe=>?_) λe=>?_) λe=>?_) λe=>?_;all_goals simp only [*,Bool.true_and,Bool.false_and] at hq
 all_goals exact hq
theorem ZVR (o:On h (c::l)) (w:ZA1 p xs c) (hl:xs.length≤1000000) {Q:Int→Hp→Prop} (hq:∀ c' h',On h' (c'::l)→ZA1 p xs c'→Q (((xs.filter ZEB).length:Nat):Int) h'):
 ZA TP 296 [Value.pointer p] (cI .i64) h Q:=by
 refine c296 ?_;unfold F296;refine ZWc o w hl λs c1 d h1 o1 w1 wd=>?_;have hlen:=wd.1;refine Zb (λz h'=>∃ i:Nat,z=(((((xs.take i).filter ZEB).length:Nat):Int),(i:Int))/\i<=xs.length/\h'=h1) (λz=>xs.length-z.2.toNat) ⟨0,rfl,Nat.zero_le _,rfl⟩ ?_;rintro J z h2 again ⟨i,rfl,hi,rfl⟩
 dsimp only;refine ZJ (λhlt=>?_) λhge=>?_
 ·have hi':i<xs.length:=by omega
  have a0:xs[i]?=some xs[i]:=List.getElem?_eq_getElem hi';have est:(xs.take (i+1)).filter ZEB=(xs.take i).filter ZEB++if ZEB xs[i]=true then [xs[i]] else []:=by rw [List.take_add_one,a0,List.filter_append];simp [List.filter_cons]
  have hle:=List.length_filter_le ZEB (xs.take i);rw [List.length_take] at hle;rw [ZAQ (n:=i) (by omega)];refine ZN (λn h'=>n=((((xs.take (i+1)).filter ZEB).length:Nat):Int)/\h'=h2) ?_ λJ2 hJ2=>?_
  .rintro n h' ⟨rfl,rfl⟩;exact again _ _ ⟨i+1,rfl,by omega,rfl⟩ (by dsimp only; omega)
  .refine ZL wd.row (Int.natCast_nonneg i) (by omega) λa ha=>ZO wd.row (o1.mem (by simp)) rfl ha (i:=i) a0 (by rfl) ?_;refine ZN (λt h'=>t=ZEB xs[i]/\h'=h2) ?_ λJ3 hJ3=>?_
   .rintro t h' ⟨rfl,rfl⟩;refine ZD (λht=>hJ2 _ _ ⟨?_,rfl⟩) λht=>hJ2 _ _ ⟨?_,rfl⟩
    .rw [est,if_pos ht,List.length_append,List.length_singleton];exact ZAQ (by omega)
    .rw [est,if_neg (by rw [ht]; simp),List.append_nil]
   .refine ZD (λe1=>hJ3 _ _ ⟨?_,rfl⟩) λe1=>hJ3 _ _ ⟨?_,rfl⟩
    .unfold ZEB; rw [show (xs[i].State==1)=true from e1]; rfl
    .unfold ZEB; rw [show (xs[i].State==1)=false from e1]; rfl
 .have:i=xs.length:=by omega
  subst this;rw [List.take_length];exact hq c1 h2 (o1.sublist (List.Sublist.cons_cons _ (List.sublist_cons_self _ _))) w1
theorem ZWq {x:Ask} (o:On h (c::l)) (w:ZA1 p xs c) (hs:Srt Ask.ID xs) (hx:∀ y∈xs,y.ID<x.ID) (hl:xs.length≤1000000) {Q:Int→Hp→Prop} (hq:∀ c' h',On h' (c'::l)→ZA1 p (ZIg xs x).1 c'→Q (ZIg xs x).2 h'):
 ZA TP 221 [Value.pointer p,ZAb.enc x] (cI .i64) h Q:=by
 refine c221 ?_;unfold F221;refine ZJg o w hs hl λi c1 h1 o1 w1 hi _ hall=>?_;have hi:=hall hx;subst hi;obtain ⟨b,hp⟩:=w1.some;unfold ZIg at hq;refine ZN (λt h'=>h'=h1/\t=decide ((xs.findIdx? λy=>y.ID==x.ID).isSome=true\/ZOW x=false)) ?_ λJ hJ=>?_
 ·rintro t h' ⟨rfl,rfl⟩;refine ZJ (fun hc=>?_) fun hc=>?_
  .rw [if_pos hc] at hq;exact hq c1 h' o1 w1
  .rw [if_neg hc] at hq;refine ZVR o1 w1 hl λc2 h2 o2 w2=>?_;refine ZJ (λhm=>?_) λhm=>?_
   .rw [if_pos (by omega)] at hq;exact hq c2 h2 o2 w2
   .rw [if_neg (by omega)] at hq;obtain ⟨b,sl,d,rfl,oc,wd⟩:=w2;have o3:=o2.split oc;dsimp only [ZR];refine ZI (x:=sl) o3 0 rfl rfl ?_;refine ZH o3 λk h4 o4=>?_;refine ZOq (s:=sl) (i:=xs.length) (k:=k) (x:=x) (xs:=xs) (o4.perm (l':=d::ob k (ZAb.enc x).cells.toList 50::ob b [sv sl] 174::l) ?_) wd (Nat.le_refl _) hl λs5 c5 h5 o5 w5=>?_
    .exact ((List.Perm.swap _ _ _).cons _).trans (List.Perm.swap _ _ _)
    .rw [List.take_length,List.drop_length] at w5;refine ZZ (cd:=cSl) (i:=0) (x:=s5) (vs':=[sv s5]) o5.swap rfl rfl (Nat.le_refl 1) λh6 o6=>?_;obtain ⟨c7,o7,w7⟩:=ZAZ.close o6 w5;exact hq c7 h6 o7 w7
 .refine ZT (by rw [hp]; rfl) ?_;refine ZD (λht=>hJ _ _ ⟨rfl,(decide_eq_true (.inl ht)).symm⟩) λht=>?_;refine ZR6 (hJ _ _ ⟨rfl,?_⟩);have ht:(xs.findIdx? λy=>y.ID==x.ID).isSome=false:=ht;rw [ht,Bool.eq_iff_iff]; simp
end
abbrev Zv:=ZAZ ZS 172
def ZM0:Za:=⟨0,0,0,0,0,false⟩
def getQ (xs:List Za) (id:Int):Option Za:=xs.find? λx=>x.ID==id
def ZHz (q:Za):Za:={q with Live:=false}
def killQ (xs:List Za) (id:Int):List Za:=upd Za.ID id ZHz xs
def ZJh (xs:List Za) (id:Int):Bool:=match getQ xs id with
 | none=>false
 | some q=>q.Live
def ZaI (q x:Za):Bool:=x.Ask==q.Ask&&(x.Dealer==q.Dealer&&x.Live)
def ZGq (q x:Za):Za:=if ZaI q x=true then ZHz x else x
def ZZ2 (q:Za):Bool:=decide (q.ID<1)||(decide (q.Ask<1)||(decide (q.Price<1)||(decide (q.Dealer<0)||!q.Live)))
def ZIT (xs:List Za) (q:Za):List Za×Int:=
 if (xs.findIdx? λx=>x.ID==q.ID).isSome=true\/ZZ2 q=true then (xs,1) else (xs.map (ZGq q)++[q],0)
def ZIC (xs:List Za) (id dealer:Int):List Za×Int:=match getQ xs id with
 | none=>(xs,4)
 | some q=>if q.Dealer≠dealer then (xs,5) else if q.Live=false then (xs,12) else (killQ xs id,0)
section
variable {p:Option Addr} {xs:List Za} {c h:Hp} {l:List Hp} {id:Int}
theorem ZJr (o:On h (c::l)) (w:Zv p xs c) (hs:Srt Za.ID xs) (hl:xs.length<=1000000) {Q:Int×Bool->Hp->Prop}
 (hq:∀ (i:Nat) c' h',On h' (c'::l)->Zv p xs c'->i<=xs.length->(∀ j,(xs.findIdx? λx=>x.ID==id)=some j->i=j)->((∀ x∈xs,x.ID<id)->i=xs.length)->Q ((i:Int),(xs.findIdx? λx=>x.ID==id).isSome) h'):
 ZA TP 141 [Value.pointer p,Value.int .i64 id] (ZW [cI .i64,cB]) h Q:=by
 obtain ⟨b,sl,d,rfl,oc,wd⟩:=w;refine c141 ?_;unfold F141;refine ZT rfl ?_;have o1:=o.split oc;dsimp only [ZR];refine ZI (x:=sl) o1 0 rfl rfl ?_;refine ZPs (f:=⟨225,#[],#[]⟩) (ZZs (id:=id)) o1 (by simp) (g:=d) (by simp) wd.row hl λi h2 hi hk o2=>?_;obtain ⟨e1,e2,e3⟩:=ZNR (key:=Za.ID) hs hi hk;obtain ⟨c2,o3,w3⟩:=ZAZ.close o2 wd;rw [e1];exact hq i c2 h2 o3 w3 hi e2 e3
theorem ZRM (o:On h (c::l)) (w:Zv p xs c) (hs:Srt Za.ID xs) (hl:xs.length≤1000000) {Q:Za×Bool→Hp→Prop} (hq:∀ c' h',On h' (c'::l)→Zv p xs c'→Q (ZLF ZM0 (getQ xs id)) h'):
 ZA TP 210 [Value.pointer p,Value.int .i64 id] (ZW [ZS,cB]) h Q:=by
 refine c210 ?_;unfold F210;refine ZJr o w hs hl λi c1 h1 o1 w1 hi hj _=>?_;have hq2:=hq c1 h1 o1 w1;clear hq;unfold getQ at hq2;cases hf:xs.findIdx? λx=>x.ID==id with
 | none=>
   rw [(ZCL hf).1] at hq2;exact Zh rfl hq2
 | some j=>
   have:=hj j hf;subst this;obtain ⟨x,hx,hg,_,hlt,_⟩:=ZAk hf;rw [hg] at hq2;obtain ⟨b,sl,d,rfl,oc,wd⟩:=w1;refine ZT rfl ?_;have o2:=o1.split oc;dsimp only [ZR];refine ZI (x:=sl) o2 0 rfl rfl ?_;exact ZL wd.row (Int.natCast_nonneg i) (by omega) λa ha=>ZO wd.row (o2.mem (by simp)) rfl ha (i:=i) hx (by rfl) hq2
theorem ZNS (o:On h (c::l)) (w:Zv p xs c) (hs:Srt Za.ID xs) (hl:xs.length≤1000000) {Q:Bool→Hp→Prop} (hq:∀ c' h',On h' (c'::l)→Zv p (killQ xs id) c'→Q (ZJh xs id) h'):
 ZA TP 82 [Value.pointer p,Value.int .i64 id] cB h Q:=by
 refine c82 ?_;unfold F82;refine ZJr o w hs hl λi c1 h1 o1 w1 hi hj _=>?_;unfold killQ ZJh getQ at hq;cases hf:xs.findIdx? λx=>x.ID==id with
 | none=>
   rw [(ZCL hf).1,upd_none (key:=Za.ID) hf] at hq;refine ZN (λt h'=>t=true/\h'=h1) ?_ λJ hJ=>?_
   .rintro t h' ⟨rfl,rfl⟩;exact Zh rfl (hq c1 h' o1 w1)
   .exact Zh rfl (hJ _ _ ⟨rfl,rfl⟩)
 | some j=>
   have:=hj j hf;subst this;obtain ⟨x,hx,hg,_,hlt,_⟩:=ZAk hf;rw [hg] at hq;dsimp only at hq;have w1':=w1;obtain ⟨b,sl,d,rfl,oc,wd⟩:=w1;have o2:=o1.split oc;refine ZN (λt h'=>t=!x.Live/\h'=h1) ?_ λJ hJ=>?_
   .rintro t h' ⟨rfl,rfl⟩;refine ZD (λhn=>?_) λhn=>?_
    .have hn:x.Live=false:=by simpa using hn
     have e:upd Za.ID id ZHz xs=xs:=by rw [<-ZEv hs hf hx,show ZHz x=x by unfold ZHz; rw [<-hn],<-(List.getElem?_eq_some_iff.1 hx).2,List.set_getElem_self]
     rw [e] at hq;have hq:=hq c1 h' o1 w1';rwa [hn] at hq
    .have hn:x.Live=true:=by simpa using hn
     dsimp only [ZR];refine ZI (x:=sl) o2 0 rfl rfl ?_;refine ZL wd.row (Int.natCast_nonneg i) (by omega) λa ha=>?_;rw [wd.part_at ha];refine ZAC (cd:=ZS) (cf:=cB) o2.swap rfl rfl wd ha (i:=i) (x0:=x) hx (m:=(i:Int).toNat*6) rfl (k:=5) (y:=false) (x':=ZHz x) rfl (by decide) λc3 h3 o3 w3=>?_;rw [ZEv hs hf hx] at w3;obtain ⟨c6,o6,w6⟩:=ZAZ.close o3.swap w3;have hq:=hq c6 h3 o6 w6;rwa [hn] at hq
   .refine ZT rfl ?_;dsimp only [ZR];refine ZI (x:=sl) o2 0 rfl rfl ?_;refine ZL wd.row (Int.natCast_nonneg i) (by omega) λa ha=>?_;rw [wd.part_at ha];exact Zg (cd:=ZS) (cf:=cB) wd.row (o2.mem (by simp)) rfl ha (i:=i) hx rfl (k:=5) (y:=x.Live) rfl (hJ _ _ ⟨rfl,rfl⟩)
theorem ZUh {dealer:Int} (o:On h (c::l)) (w:Zv p xs c) (hs:Srt Za.ID xs) (hl:xs.length≤1000000) {Q:Int→Hp→Prop} (hq:∀ c' h',On h' (c'::l)→Zv p (ZIC xs id dealer).1 c'→Q (ZIC xs id dealer).2 h'):
 ZA TP 281 [Value.pointer p,Value.int .i64 id,Value.int .i64 dealer] (cI .i64) h Q:=by
 refine c281 ?_;unfold F281;refine ZRM o w hs hl λc1 h1 o1 w1=>?_;unfold ZIC at hq;cases hg:getQ xs id with
 | none=>
   rw [hg] at hq;exact Zh rfl (hq c1 h1 o1 w1)
 | some q=>
   rw [hg] at hq;dsimp only at hq;refine ZT rfl (ZD (λhd=>?_) λhd=>?_)
   .rw [if_pos (by simpa [ZLF] using hd)] at hq;exact hq c1 h1 o1 w1
   ·rw [if_neg (by simpa [ZLF] using hd)] at hq;refine ZNS o1 w1 hs hl fun c2 h2 o2 w2=>?_;have e:ZJh xs id=q.Live:=by unfold ZJh; rw [hg]
    rw [e];cases hv:q.Live with
    | false=>
      rw [hv,if_pos rfl] at hq;refine Zh rfl (hq c2 h2 o2 ?_)
      have e:killQ xs id=xs:=by
       unfold getQ at hg;cases hf:xs.findIdx? λx=>x.ID==id with
       | none=>rw [(ZCL hf).1] at hg; cases hg
       | some i=>
         obtain ⟨x,hx,hg2,_,hlt,_⟩:=ZAk hf;rw [hg] at hg2;cases hg2;unfold killQ;rw [<-ZEv hs hf hx,show ZHz q=q by unfold ZHz; rw [<-hv],<-(List.getElem?_eq_some_iff.1 hx).2,List.set_getElem_self]
      rwa [e] at w2
    | true=>
      rw [hv,if_neg (by simp)] at hq;exact ZT rfl (hq c2 h2 o2 w2)
theorem ZML {f:FnV} {cc:List Hp} {φ:Za→Bool} (hf:Clo TP cc f (fun x=>[ZS.enc x]) cB φ) (o:On h (c::l)) (hcc:∀ p∈cc,p∈l) (w:Zv p xs c) (hl:xs.length≤1000000)
 {Q:Sl->Hp->Prop} (hq:∀ s c' d h',On h' (c'::d::l)->Zv p xs c'->Own ZS d s (xs.filter φ)->Q s h'):ZA TP 147 [Value.pointer p,Value.func (Fn.func f.g) f.first f.cap] cSl h Q:=by
 obtain ⟨b,sl,d,rfl,oc,wd⟩:=w;refine c147 ?_;unfold F147;refine ZT rfl ?_;have o1:=o.split oc;have hlen:=wd.1;dsimp only [ZR];refine ZI (x:=sl) o1 0 rfl rfl ?_;refine Zb (λz h'=>∃ (i:Nat) (dO:Hp),z.2=(i:Int)/\i<=xs.length/\On h' (dO::ob b [sv sl] 172::d::l)/\Own ZS dO z.1 ((xs.take i).filter φ)) (λz=>xs.length-z.2.toNat)
  ⟨0,Hp.emp,rfl,Nat.zero_le _,o1.emp,Own.nil _⟩ ?_
 rintro J ⟨z,zi⟩ h1 again ⟨i,dO,hzi,hle,o1,w1⟩
 dsimp only at hzi w1;subst hzi;dsimp only;have hfl:((xs.take i).filter φ).length<=i:=Nat.le_trans (List.length_filter_le _ _) (by rw [List.length_take]; omega);refine ZJ (λhlt=>?_) λhge=>?_
 ·have hi:i<xs.length:=by omega
  have a0:xs[i]?=some xs[i]:=List.getElem?_eq_getElem hi;generalize xs[i]=x at a0;have ei:IntKind.i64.wrap ((i:Int)+1)=((i+1:Nat):Int):=ZAQ (by omega);rw [ei];have est:(xs.take (i+1)).filter φ=(xs.take i).filter φ++if φ x=true then [x] else []:=by rw [List.take_add_one,a0,List.filter_append];simp [List.filter_cons]
  refine ZN (λz h'=>∃ dO,On h' (dO::ob b [sv sl] 172::d::l)/\Own ZS dO z ((xs.take (i+1)).filter φ)) ?_ λJ2 hJ2=>?_
  .rintro z2 h2 ⟨dO2,o2,w2⟩;exact again _ _ ⟨i+1,dO2,rfl,by omega,o2,w2⟩ (by dsimp only; omega)
  .refine ZL wd.row (Int.natCast_nonneg i) (by omega) λa ha=>ZO wd.row (o1.mem (by simp)) rfl ha (i:=i) a0 (by rfl) ?_;refine hf x h1 _ _ (λp hp=>by simp [hcc p hp]) o1 λh2 o2=>?_;refine ZD (λe=>?_) λe=>?_
   .rw [if_pos e] at est;refine ZH o2 λk2 h3 o3=>?_;refine ZU (g:=ob k2 (ZS.enc x).cells.toList 207) (s:=z) (t:=⟨some ⟨k2,0,none⟩,1,1⟩) (ys:=[x]) o3.swap rfl w1 (by decide) (Ze (by rfl) rfl) (o3.get (i:=0) rfl) ?_ λd4 p n m h4 o4 w4=>?_
    .rw [List.length_singleton];exact Nat.le_trans (Nat.mul_le_mul_right _ (show _<=1000001 by omega)) (by decide)
    .exact hJ2 ⟨p,n,m⟩ h4 ⟨d4,o4.sublist (List.Sublist.cons_cons _ (List.sublist_cons_self _ _)),by rw [est]; exact w4⟩
   .rw [if_neg (by rw [e]; simp),List.append_nil] at est;exact hJ2 _ h2 ⟨dO,o2,by rw [est]; exact w1⟩
 .have:i=xs.length:=by omega
  subst this;rw [List.take_length] at w1;have o2:On h1 (ob b [sv sl] 172::d::dO::l):=o1.perm ((List.Perm.swap _ _ _).trans ((List.Perm.swap _ _ _).cons _));obtain ⟨c2,o4,w4⟩:=ZAZ.close o2 wd;exact hq z c2 dO h1 o4 w4 w1
end
def ZPh (ask tick:Int) (x:Za):Bool:=x.Ask==ask&&(x.Live&&decide (x.Expires>tick))
def ofQ (dealer:Int) (x:Za):Bool:=x.Dealer==dealer&&x.Live
def ZIr (xs:List Za) (ask:Int):List Za:=xs.filter λx=>!(x.Ask==ask)
section
variable {p:Option Addr} {xs:List Za} {c h:Hp} {l:List Hp} {id:Int}
theorem ZU3 {tick:Int} (o:On h (c::l)) (w:Zv p xs c) (hl:xs.length<=1000000) {Q:Sl->Hp->Prop} (hq:∀ s c' d h',On h' (c'::d::l)->Zv p xs c'->Own ZS d s (xs.filter (ZPh id tick))->Q s h'):
 ZA TP 214 [Value.pointer p,Value.int .i64 id,Value.int .i64 tick] cSl h Q:=by
 refine c214 ?_;unfold F214;refine ZH o λk1 h1 o1=>?_;refine ZH o1 λk2 h2 o2=>?_;refine ZML (f:=⟨289,#[],#[.pointer (some ⟨k1,0,none⟩),.pointer (some ⟨k2,0,none⟩)]⟩) (ZYk (k0:=k1) (k1:=k2) (k:=id) (id:=tick)) (o2.rot3) (by simp) w hl λs c3 d3 h3 o3 w3 wd=>?_;exact hq s c3 d3 h3 (o3.sublist (List.Sublist.cons_cons _ (List.Sublist.cons_cons _ ((List.sublist_cons_self _ _).trans (List.sublist_cons_self _ _))))) w3 wd
theorem ZZl (o:On h (c::l)) (w:Zv p xs c) (hl:xs.length<=1000000) {Q:Sl->Hp->Prop} (hq:∀ s c' d h',On h' (c'::d::l)->Zv p xs c'->Own ZS d s (xs.filter (ofQ id))->Q s h'):
 ZA TP 87 [Value.pointer p,Value.int .i64 id] cSl h Q:=by
 refine c87 ?_;unfold F87;refine ZH o λk1 h1 o1=>?_;refine ZML (f:=⟨148,#[],#[.pointer (some ⟨k1,0,none⟩)]⟩) (ZZa (k0:=k1) (id:=id)) o1.swap (by simp) w hl λs c3 d3 h3 o3 w3 wd=>?_;exact hq s c3 d3 h3 (o3.sublist (List.Sublist.cons_cons _ (List.Sublist.cons_cons _ (List.sublist_cons_self _ _)))) w3 wd
theorem ZRU (o:On h (c::l)) (w:Zv p xs c) (hl:xs.length<=1000000) {Q:Sl->Hp->Prop} (hq:∀ s c' d h',On h' (c'::d::l)->Zv p (ZIr xs id) c'->Own (cI .i64) d s ((xs.filter λx=>x.Ask==id).map Za.ID)->Q s h'):
 ZA TP 227 [Value.pointer p,Value.int .i64 id] cSl h Q:=by
 refine c227 ?_;unfold F227;refine ZH o λk1 h1 o1=>?_;refine ZML (f:=⟨298,#[],#[.pointer (some ⟨k1,0,none⟩)]⟩) (ZYR (k0:=k1) (id:=id)) o1.swap (by simp) w hl λs c2 d2 h2 o2 w2 wd2=>?_;generalize hys:(xs.filter λx=>x.Ask==id)=ys at wd2;have hyl:ys.length<=xs.length:=by rw [<-hys]; exact List.length_filter_le _ _
 have hlen:=wd2.1;refine Zb (λz h'=>∃ (i:Nat) (dO:Hp),z.2=(i:Int)/\i<=ys.length/\On h' (dO::c2::d2::ob k1 [Value.int .i64 id] 2::l)/\Own (cI .i64) dO z.1 ((ys.take i).map Za.ID)) (λz=>ys.length-z.2.toNat)
  ⟨0,Hp.emp,rfl,Nat.zero_le _,o2.emp,Own.nil _⟩ ?_
 rintro J ⟨z,zi⟩ h3 again ⟨i,dO,hzi,hle,o3,w3⟩
 dsimp only at hzi w3;subst hzi;dsimp only;refine ZJ (λhlt=>?_) λhge=>?_
 .have hi:i<ys.length:=by omega
  have a0:ys[i]?=some ys[i]:=List.getElem?_eq_getElem hi;rw [ZAQ (by omega)];refine ZL wd2.row (Int.natCast_nonneg i) (by omega) λa ha=>ZO wd2.row (o3.mem (by simp)) rfl ha (i:=i) a0 (by rfl) ?_;refine ZH o3 λk4 h4 o4=>?_;refine ZU (g:=ob k4 [Value.int .i64 ys[i].ID] 2) (s:=z) (t:=⟨some ⟨k4,0,none⟩,1,1⟩) (ys:=[ys[i].ID]) o4.swap rfl w3 (by decide) (Ze (by rfl) rfl) (o4.get (i:=0) rfl) ?_ λd5 p n m h5 o5 w5=>?_
  .rw [List.length_singleton,List.length_map,List.length_take];exact Nat.le_trans (Nat.mul_le_mul_right _ (show _<=1000001 by omega)) (by decide)
  .refine again _ _ ⟨i+1,d5,rfl,by omega,o5.sublist (List.Sublist.cons_cons _ (List.sublist_cons_self _ _)),?_⟩ (by dsimp only; omega);rw [List.take_add_one,a0,List.map_append];exact w5
 .have hie:i=ys.length:=by omega
  subst hie;rw [List.take_length] at w3;obtain ⟨b,sl,d,rfl,oc,wd⟩:=w2;refine Zh rfl ?_;have o4:On h3 (c2::dO::d2::ob k1 [Value.int .i64 id] 2::l):=o3.swap;have o5:On h3 (ob b [sv sl] 172::d::dO::d2::ob k1 [Value.int .i64 id] 2::l):=o4.split oc;dsimp only [ZR];refine ZI (x:=sl) o5 0 rfl rfl ?_;refine ZME (f:=⟨300,#[],#[.pointer (some ⟨k1,0,none⟩)]⟩) (ZZf (k0:=k1) (id:=id)) o5.swap (by simp) wd hl λs6 c6 h6 o6 w6=>?_;refine ZZ (cd:=cSl) (i:=0) (x:=s6) (vs':=[sv s6]) o6.swap rfl rfl (Nat.le_refl 1) λh7 o7=>?_;obtain ⟨c8,o8,w8⟩:=ZAZ.close o7 w6;refine hq z c8 dO h7 (o8.sublist (List.Sublist.cons_cons _ (List.Sublist.cons_cons _ ((List.sublist_cons_self _ _).trans (List.sublist_cons_self _ _))))) w8 ?_;rw [hys];exact w3
theorem ZWb {x:Za} (o:On h (c::l)) (w:Zv p xs c) (hs:Srt Za.ID xs) (hx:∀ y∈xs,y.ID<x.ID) (hl:xs.length≤1000000) {Q:Int×Int→Hp→Prop} (hq:∀ old c' h',On h' (c'::l)→Zv p (ZIT xs x).1 c'→Q (old,(ZIT xs x).2) h'):
 ZA TP 208 [Value.pointer p,ZS.enc x] (ZW [cI .i64,cI .i64]) h Q:=by
 refine c208 ?_;unfold F208;refine ZJr o w hs hl λi c1 h1 o1 w1 hi _ hall=>?_;have hi:=hall hx;subst hi;unfold ZIT at hq;refine ZN (λt h'=>h'=h1/\t=decide ((xs.findIdx? λy=>y.ID==x.ID).isSome=true\/ZZ2 x=true)) ?_ λJ hJ=>?_
 ·rintro t h' ⟨rfl,rfl⟩;refine ZJ (fun hc=>?_) fun hc=>?_
  .rw [if_pos hc] at hq;exact hq 0 c1 h' o1 w1
  ·rw [if_neg hc] at hq;obtain ⟨b,sl,d,rfl,oc,wd⟩:=w1;have hlen:=wd.1;have o2:=o1.split oc;dsimp only [ZR];refine ZI (x:=sl) o2 0 rfl rfl ?_;refine Zb (fun z h'=>∃ (i:Nat) (d:Hp),z.2=(i:Int)∧i≤xs.length∧On h' (ob b [sv sl] 172::d::l)∧Own ZS d sl ((xs.take i).map (ZGq x)++xs.drop i)) (fun z=>xs.length-z.2.toNat)
    ⟨0,d,rfl,Nat.zero_le _,o2,by simpa using wd⟩ ?_
   rintro J ⟨z,zi⟩ h3 again ⟨i,d3,hzi,hle,o3,w3⟩
   dsimp only at hzi;subst hzi;dsimp only;refine ZJ (λhlt=>?_) λhge=>?_
   ·have hi:i<xs.length:=by omega
    have htl:((xs.take i).map (ZGq x)).length=i:=by rw [List.length_map,List.length_take]; omega
    have a1:((xs.take i).map (ZGq x)++xs.drop i)[i]?=some xs[i]:=by rw [List.getElem?_append_right (by omega),htl,Nat.sub_self,List.getElem?_drop,Nat.add_zero,List.getElem?_eq_getElem hi]
    have estep:(xs.take (i+1)).map (ZGq x)++xs.drop (i+1)=((xs.take i).map (ZGq x)++xs.drop i).set i (ZGq x xs[i]):=by rw [List.take_add_one,List.getElem?_eq_getElem hi,List.map_append,List.append_assoc,List.set_append_right _ _ (by omega),htl,Nat.sub_self,List.drop_eq_getElem_cons hi];rfl
    rw [ZAQ (by omega)];have hl3:((xs.take i).map (ZGq x)++xs.drop i).length=xs.length:=by rw [List.length_append,htl,List.length_drop]; omega
    refine ZN (λn h'=>∃ d,On h' (ob b [sv sl] 172::d::l)/\Own ZS d sl ((xs.take (i+1)).map (ZGq x)++xs.drop (i+1))) ?_ λJ2 hJ2=>?_
    .rintro n h4 ⟨d4,o4,w4⟩;exact again _ _ ⟨i+1,d4,rfl,by omega,o4,w4⟩ (by dsimp only; omega)
    ·refine ZI (x:=sl) o3 0 rfl rfl ?_;refine ZL w3.row (Int.natCast_nonneg i) (by rw [hl3]; omega) fun a ha=>?_;have e:=w3.part_at ha (m:=(i:Int).toNat*6);simp only [e];refine ZN (fun t h'=>h'=h3∧t=ZaI x xs[i]) ?_ fun J3 hJ3=>?_
     ·rintro t h' ⟨rfl,rfl⟩;refine ZD (fun ho=>?_) fun ho=>?_
      .refine ZAC (cd:=ZS) (cf:=cB) o3.swap rfl rfl w3 ha (i:=i) (x0:=xs[i]) a1 (m:=(i:Int).toNat*6) rfl (k:=5) (y:=false) (x':=ZHz xs[i]) rfl (by decide) λc5 h5 o5 w5=>?_;have e7:(xs.take (i+1)).map (ZGq x)++xs.drop (i+1)=((xs.take i).map (ZGq x)++xs.drop i).set i (ZHz xs[i]):=by rw [estep]; unfold ZGq; rw [if_pos ho]
       rw [<-e7] at w5;have a2:((xs.take (i+1)).map (ZGq x)++xs.drop (i+1))[i]?=some (ZHz xs[i]):=by rw [e7,List.getElem?_set_self (by rw [hl3]; omega)]
       refine Zg (cd:=ZS) (cf:=cI .i64) w5.row (o5.mem (by simp)) rfl ha (i:=i) a2 rfl (k:=0) (y:=xs[i].ID) rfl ?_;exact hJ2 _ h5 ⟨c5,o5.swap,w5⟩
      ·refine hJ2 _ h' ⟨d3,o3,?_⟩;have e7:ZGq x xs[i]=xs[i]:=by unfold ZGq; rw [if_neg (by rw [ho]; simp)]
       rw [estep,e7]
       have e8:((xs.take i).map (ZGq x)++xs.drop i).set i xs[i]=(xs.take i).map (ZGq x)++xs.drop i:=by
             have:=(List.getElem?_eq_some_iff.1 a1)
             obtain ⟨h1,h2⟩:=this;conv=>lhs; rw [<-h2]
             exact List.set_getElem_self h1
       rw [e8];exact w3
     .unfold ZaI at hJ3;refine Zg (cd:=ZS) (cf:=cI .i64) w3.row (o3.mem (by simp)) rfl ha (i:=i) a1 rfl (k:=1) (y:=xs[i].Ask) rfl ?_;refine ZD (λe1=>?_) λe1=>hJ3 _ _ ⟨rfl,by rw [e1]; rfl⟩;refine Zg (cd:=ZS) (cf:=cI .i64) w3.row (o3.mem (by simp)) rfl ha (i:=i) a1 rfl (k:=2) (y:=xs[i].Dealer) rfl ?_;refine ZD (λe2=>?_) λe2=>hJ3 _ _ ⟨rfl,by rw [e1,e2]; rfl⟩;refine Zg (cd:=ZS) (cf:=cB) w3.row (o3.mem (by simp)) rfl ha (i:=i) a1 rfl (k:=5) (y:=xs[i].Live) rfl ?_;exact hJ3 _ _ ⟨rfl,by rw [e1,e2]; rfl⟩
   .have hie:i=xs.length:=by omega
    subst hie;rw [List.take_length,List.drop_length,List.append_nil] at w3;refine ZI (x:=sl) o3 0 rfl rfl ?_;refine ZH o3 λk h4 o4=>?_;refine ZP2 (s:=sl) (i:=xs.length) (k:=k) (x:=x) (xs:=xs.map (ZGq x)) (o4.perm (l':=d3::ob k (ZS.enc x).cells.toList 207::ob b [sv sl] 172::l) ?_) w3 (by rw [List.length_map]; exact Nat.le_refl _) (by rw [List.length_map]; exact hl) λs5 c5 h5 o5 w5=>?_
    .exact ((List.Perm.swap _ _ _).cons _).trans (List.Perm.swap _ _ _)
    .rw [List.take_of_length_le (by simp),List.drop_of_length_le (by simp)] at w5;refine ZZ (cd:=cSl) (i:=0) (x:=s5) (vs':=[sv s5]) o5.swap rfl rfl (Nat.le_refl 1) λh6 o6=>?_;obtain ⟨c7,o7,w7⟩:=ZAZ.close o6 w5;exact hq z c7 h6 o7 w7
 .obtain ⟨b,hp⟩:=w1.some;refine ZT (by rw [hp]; rfl) ?_;refine ZD (λht=>hJ _ _ ⟨rfl,(decide_eq_true (.inl ht)).symm⟩) λht=>?_;have ht:(xs.findIdx? λy=>y.ID==x.ID).isSome=false:=ht;have key:∀ b,b=ZZ2 x->J b h1:=λb hb=>hJ _ _ ⟨rfl,by rw [hb,ht,Bool.eq_iff_iff]; simp⟩;unfold ZZ2 at key;refine ZD (λe1=>key _ (by rw [e1]; rfl)) λe1=>ZD (λe2=>key _ (by rw [e1,e2]; rfl)) λe2=>ZD (λe3=>key _ (by rw [e1,e2,e3]; rfl)) λe3=>ZD (λe4=>key _ (by rw [e1,e2,e3,e4]; rfl)) λe4=>key _ (by rw [e1,e2,e3,e4]; rfl)
end
def ZGf (p:Option Addr) (n:Nat) (c:Hp):Prop:=∃ xs:List Due,ZAZ ZBk 176 p xs c/\xs.length<=n
section
variable {p:Option Addr} {n:Nat} {c h:Hp} {l:List Hp} {id:Int}
theorem ZX2 (o:On h l) {Q:Option Addr->Hp->Prop} (hq:∀ p c h',On h' (c::l)->ZGf p 0 c->Q p h'):ZA TP 38 [] cP h Q:=by refine c38 ?_;unfold F38;refine ZH o λk h1 o1=>?_;obtain ⟨c,o2,w⟩:=ZAZ.new (cd:=ZBk) o1;exact hq _ c h1 o2 ⟨[],w,Nat.le_refl _⟩
theorem ZNW {k:Int} {xs:List Due} (o:On h (c::l)) (w:ZAZ ZBk 176 p xs c) (hl:xs.length<=1000000) {Q:Int->Hp->Prop} (hq:∀ c' h',On h' (c'::l)->ZAZ ZBk 176 p xs c'->Q (ZO1 (xs.findIdx? λx=>x.Kind==k&&x.ID==id)) h'):
 ZA TP 149 [Value.pointer p,Value.int .i64 k,Value.int .i64 id] (cI .i64) h Q:=by
 obtain ⟨b,sl,d,rfl,oc,wd⟩:=w;refine c149 ?_;unfold F149;refine ZH (o.split oc) λk1 h1 o1=>?_;refine ZH o1 λk2 h2 o2=>?_;dsimp only [ZR];refine ZI (x:=sl) o2 2 rfl rfl ?_;refine ZS0 (f:=⟨231,#[],#[.pointer (some ⟨k1,0,none⟩),.pointer (some ⟨k2,0,none⟩)]⟩) (ZYo (k0:=k1) (k1:=k2) (k:=k) (id:=id)) o2 (by simp) (g:=d) (by simp) wd.row hl λh3 o3=>?_;obtain ⟨c4,o4,w4⟩:=ZAZ.close o3.tail.tail wd;exact hq c4 h3 o4 w4
theorem ZXD {x:Due} (o:On h (c::l)) (w:ZGf p n c) (hl:n<=1000000) {Q:Bool->Hp->Prop} (hq:∀ t c' h',On h' (c'::l)->ZGf p (n+1) c'->Q t h'):
 ZA TP 209 [Value.pointer p,ZBk.enc x] cB h Q:=by
 obtain ⟨xs,w,hn⟩:=w;refine c209 ?_;unfold F209;refine ZN (λt h'=>∃ c',On h' (c'::l)/\ZAZ ZBk 176 p xs c') ?_ λJ hJ=>?_
 .rintro t h' ⟨c1,o1,w1⟩;refine ZD (λ_=>hq _ c1 h' o1 ⟨xs,w1,by omega⟩) λ_=>?_;obtain ⟨b,sl,d,rfl,oc,wd⟩:=w1;have o2:=o1.split oc;dsimp only [ZR];refine ZI (x:=sl) o2 0 rfl rfl ?_;refine ZP1 (f:=⟨284,#[],#[]⟩) (tv:=x) (ZZZ (b:=x)) o2 (by simp) (g:=d) (by simp) wd.row (by omega) λi h3 hi _ o3=>?_;refine ZI (x:=sl) o3 0 rfl rfl ?_;refine ZH o3 λk h4 o4=>?_;refine ZPl (s:=sl) (i:=i) (k:=k) (x:=x) (xs:=xs) (o4.perm (l':=d::ob k (ZBk.enc x).cells.toList 197::ob b [sv sl] 176::l) ?_) wd hi (by omega) λs5 c5 h5 o5 w5=>?_
  .exact ((List.Perm.swap _ _ _).cons _).trans (List.Perm.swap _ _ _)
  .refine ZZ (cd:=cSl) (i:=0) (x:=s5) (vs':=[sv s5]) o5.swap rfl rfl (Nat.le_refl 1) λh6 o6=>?_;obtain ⟨c7,o7,w7⟩:=ZAZ.close o6 w5;refine hq _ c7 h6 o7 ⟨_,w7,?_⟩;simp only [List.length_append,List.length_cons,List.length_take,List.length_drop];omega
 .obtain ⟨b,hp⟩:=w.some;refine ZT (by rw [hp]; rfl) ?_;exact ZNW o w (by omega) λc1 h1 o1 w1=>hJ _ _ ⟨c1,o1,w1⟩
theorem ZIe {b:Nat} {sl:Sl} {d:Hp} {xs:List Due} {i j:Nat} (o:On h (ob b [sv sl] 176::d::l)) (wd:Own ZBk d sl xs) (hij:i<=j) (hj:j<=xs.length) {K:Hp->Prop} (hk:∀ c' h',On h' (c'::l)->ZAZ ZBk 176 (some ⟨b,0,none⟩) (xs.take i++xs.drop j) c'->K h'):
 ZA TP 139 [Value.slice sl.a sl.len sl.cap,Value.int .i64 (i:Int),Value.int .i64 (j:Int)] cSl h λs h'=>ZV cSl ⟨b,0,none⟩ s h' K:=
 ZPG o.swap wd hij hj λs5 c5 h5 o5 w5=>ZZ (cd:=cSl) (i:=0) (x:=s5) (vs':=[sv s5]) o5.swap rfl rfl (Nat.le_refl 1) λh6 o6=>by obtain ⟨c7,o7,w7⟩:=ZAZ.close o6 w5;exact hk c7 h6 o7 w7
theorem ZVP {k:Int} (o:On h (c::l)) (w:ZGf p n c) (hl:n≤1000000) {Q:Bool→Hp→Prop} (hq:∀ t c' h',On h' (c'::l)→ZGf p n c'→Q t h'):
 ZA TP 89 [Value.pointer p,Value.int .i64 k,Value.int .i64 id] cB h Q:=by
 obtain ⟨xs,w,hn⟩:=w;refine c89 ?_;unfold F89;obtain ⟨b,hp⟩:=w.some;refine ZT (by rw [hp]; rfl) ?_;refine ZNW o w (by omega) λc1 h1 o1 w1=>?_;cases hf:xs.findIdx? λx=>x.Kind==k&&x.ID==id with
 | none=>exact Zh rfl (hq _ c1 h1 o1 ⟨xs,w1,hn⟩)
 | some i=>
   obtain ⟨x,hx,_,_,hlt,_⟩:=ZAk hf;obtain ⟨b,sl,d,rfl,oc,wd⟩:=w1;refine ZT (decide_eq_false (by show ¬((i:Nat):Int)<0; omega)) ?_;dsimp only [ZR];have o2:=o1.split oc;refine ZI (x:=sl) o2 0 rfl rfl ?_;show ZA TP 139 [Value.slice sl.a sl.len sl.cap,Value.int .i64 (i:Int),Value.int .i64 (IntKind.i64.wrap ((i:Int)+1))] cSl h1 _;rw [ZAQ (by omega)];refine ZIe o2 wd (by omega) (by omega) λc3 h3 o3 w3=>hq _ c3 h3 o3 ⟨_,w3,?_⟩;simp only [List.length_append,List.length_take,List.length_drop];omega
theorem ZUj {k:Int} (o:On h (c::l)) (w:ZGf p n c) (hl:n≤1000000) {Q:Sl→Hp→Prop} (hq:∀ s (xs:List Due) c' d h',On h' (c'::d::l)→ZGf p n c'→Own ZBk d s xs→xs.length≤n→Q s h'):
 ZA TP 80 [Value.pointer p,Value.int .i64 k] cSl h Q:=by
 obtain ⟨xs,w,hn⟩:=w;obtain ⟨b,sl,d,rfl,oc,wd⟩:=w;refine c80 ?_;unfold F80;refine ZT rfl ?_;have o1:=o.split oc;have hlen:=wd.1;have hcap:=wd.le_cap (by decide);refine Zb (λz h'=>∃ i:Nat,z=(i:Int)/\i<=xs.length/\h'=h) (λz=>xs.length-z.toNat) ⟨0,rfl,Nat.zero_le _,rfl⟩ ?_;rintro J z h1 again ⟨i,rfl,hi,rfl⟩
 rw [ZAQ (by omega)];refine ZN (λt h'=>h'=h1/\(t=true->i<xs.length)) ?_ λJ2 hJ2=>?_
 .rintro t h' ⟨rfl,ht⟩;refine ZD (λe=>?_) λ_=>?_
  .have:=ht e;exact again _ _ ⟨i+1,rfl,by omega,rfl⟩ (by omega)
  .dsimp only [ZR];refine ZI (x:=sl) o1 0 rfl rfl ?_;refine ⟨by omega,by omega,?_⟩;simp only [Int.toNat_natCast,Nat.sub_zero];have w0:Row ZBk d ⟨Zm sl.a 0 sl.cap 3,i,sl.cap⟩ (xs.take i):=by rw [ZIw];exact (wd.head rfl (k:=i) (by omega)).row
   refine ZSj (p0:=⟨Zm sl.a 0 sl.cap 3,i,sl.cap⟩) o1 (g:=d) (by simp) w0 (by rw [List.length_take]; omega) λs3 d3 h3 o3 w3=>?_;have o4:On h3 (ob b [sv sl] 176::d::d3::l):=o3.perm ((List.Perm.swap _ _ _).trans ((List.Perm.swap _ _ _).cons _));refine ZI (x:=sl) o4 0 rfl rfl ?_;refine ZIe (i:=0) (j:=i) o4 wd (by omega) (by omega) λc5 h5 o5 w5=>hq s3 _ c5 d3 h5 o5 ⟨_,w5,?_⟩ w3 ?_
   .simp only [List.length_append,List.length_take,List.length_drop];omega
   .rw [List.length_take]; omega
 .dsimp only [ZR];refine ZI (x:=sl) o1 0 rfl rfl ?_;refine ZJ (λhlt=>?_) λhge=>hJ2 _ _ ⟨rfl,by simp⟩;have hi':i<xs.length:=by omega
  refine ZI (x:=sl) o1 0 rfl rfl ?_;refine ZL wd.row (Int.natCast_nonneg i) (by omega) λa ha=>?_;refine Zg (cd:=ZBk) (cf:=cI .i64) wd.row (o1.mem (by simp)) rfl ha (i:=i) (List.getElem?_eq_getElem hi') rfl (k:=0) (y:=xs[i].Tick) rfl ?_;exact hJ2 _ _ ⟨rfl,λ_=>hi'⟩
end
theorem ZWm {n:Int} (h1:0<=n) (h2:n<18446744073709551616):IntKind.u64.wrap n=n:=by simp [IntKind.wrap,IntKind.signed,IntKind.bits]; omega
theorem ZYG {n:Int} (h:0<=n):ZBT IntKind.u64 n 32=n / 4294967296:=by show n.fdiv (2 ^ 32)=_;rw [Int.fdiv_eq_ediv_of_nonneg _ (by decide)];rfl
theorem ZRt {n:Int} (h1:0<=n) (h2:n<4294967296):ZDH IntKind.u64 n 4294967295=n:=by
 obtain ⟨m,rfl⟩:=Int.eq_ofNat_of_zero_le h1;have hm:m<4294967296:=by omega
 unfold ZDH;have e:(BitVec.ofInt IntKind.u64.bits (m:Int) &&& BitVec.ofInt IntKind.u64.bits 4294967295).toNat=m:=by
  show (BitVec.ofInt 64 (m:Int) &&& BitVec.ofInt 64 4294967295).toNat=m;rw [BitVec.toNat_and];have e1:(BitVec.ofInt 64 (m:Int)).toNat=m:=by show (BitVec.ofInt 64 (m:Int)).toNat=m;rw [BitVec.ofInt_natCast,BitVec.toNat_ofNat];omega
  have e2:(BitVec.ofInt 64 4294967295).toNat=2 ^ 32-1:=by decide
  rw [e1,e2,Nat.and_two_pow_sub_one_eq_mod];omega
 rw [e];exact ZWm (by omega) (by omega)
theorem ZTp {a b:Int} (ha:0<=a/\a<4294967296) (hb:0<=b/\b<4294967296) {h:Hp} {Q:Int×Int->Hp->Prop} (hq:Q (0,a*b) h):
 ZA TP 364 [Value.int .u64 a,Value.int .u64 b] (ZW [cI .u64,cI .u64]) h Q:=by
 refine c364 ?_;unfold F364;have hab0:0<=a*b:=Int.mul_nonneg ha.1 hb.1;have hab1:a*b<18446744073709551616:=by have:a*b<=4294967295*4294967295:=Int.mul_le_mul (by omega) (by omega) hb.1 (by decide);omega
 refine ⟨by decide,by decide,by decide,by decide,by decide,?_⟩;rw [ZYG ha.1,ZYG hb.1,ZRt ha.1 ha.2,ZRt hb.1 hb.2,show a / 4294967296=0 by omega,show b / 4294967296=0 by omega];simp only [Int.zero_mul,Int.mul_zero,ZWm hab0 hab1];rw [ZWm (n:=0) (by decide) (by decide),ZYG hab0];have ht0:0<=a*b / 4294967296:=Int.ediv_nonneg hab0 (by decide);have ht1:a*b / 4294967296<4294967296:=by omega
 simp only [Int.zero_add];rw [ZWm ht0 (by omega),ZYG ht0,ZRt ht0 ht1,Int.add_zero,ZWm ht0 (by omega),ZYG ht0];have e:a*b / 4294967296 / 4294967296=0:=by omega
 rw [e];exact hq
theorem ZJF {a b:Int} (ha:0<=a/\a<4294967296) (hb:0<=b/\b<4294967296) {h:Hp} {Q:ZFU×Bool->Hp->Prop} (hq:Q (⟨0,a*b⟩,true) h):
 ZA TP 332 [Value.int .i64 a,Value.int .i64 b] (ZW [ZAl,cB]) h Q:=by
 refine c332 ?_;unfold F332;refine ZN (λt h'=>t=false/\h'=h) ?_ λJ hJ=>?_
 .rintro t h' ⟨rfl,rfl⟩;refine ZT rfl ?_;rw [ZWm ha.1 (by omega),ZWm hb.1 (by omega)];exact ZTp ha hb hq
 .refine ZT (decide_eq_false (by omega)) (hJ _ _ ⟨decide_eq_false (by omega),rfl⟩)
theorem ZXb {a b:Int} (ha:0<=a/\a<4611686018427387904) (hb:0<=b/\b<4611686018427387904) {h:Hp} {Q:ZFU×Bool->Hp->Prop} (hq:Q (⟨0,a+b⟩,true) h):
 ZA TP 363 [Value.agg #[Value.int .u64 0,Value.int .u64 a],Value.agg #[Value.int .u64 0,Value.int .u64 b]] (ZW [ZAl,cB]) h Q:=by
 obtain ⟨a,rfl⟩:=Int.eq_ofNat_of_zero_le ha.1;obtain ⟨b,rfl⟩:=Int.eq_ofNat_of_zero_le hb.1;refine c363 (p0:=⟨0,(a:Int)⟩) (p1:=⟨0,(b:Int)⟩) ?_;unfold F363;refine ZOP (x:=a) (y:=b) (c:=0) (by decide) ?_;have e1:(a+b+0) % 18446744073709551616=a+b:=by omega
 have e2:(a+b+0) / 18446744073709551616=0:=by omega
 rw [e1,e2];refine ZOP (x:=0) (y:=0) (c:=0) (by decide) ?_;exact ZT rfl hq
theorem ZRT {a b:Int} {h:Hp} {l:List Hp} (o:On h l) {Q:Int->Hp->Prop} (hq:∀ h',On h' l->Q (ZDW a b) h'):
 ZA TP 333 [Value.agg #[Value.int .u64 0,Value.int .u64 a],Value.agg #[Value.int .u64 0,Value.int .u64 b]] (cI .i64) h Q:=by
 refine c333 (p0:=⟨0,a⟩) (p1:=⟨0,b⟩) ?_;unfold F333;refine ZHR (ZHR ?_);refine ZH o λk h1 o1=>?_;refine ZNz (p0:=⟨some ⟨k,0,none⟩,2,2⟩) (xs:=[ZDW 0 0,ZDW a b]) o1 (g:=ob k [Value.int .i64 (ZDW 0 0),Value.int .i64 (ZDW a b)] 3) (by simp) (Ze (by rfl) rfl) (by simp) ?_;have e:ZTX [ZDW 0 0,ZDW a b]=ZDW a b:=by have:ZDW 0 0=0:=rfl;rw [this];simp [ZTX];exact λh=>h.symm
 rw [e];exact hq h1 o1.tail
theorem ZQx {a:Int} (ha:0<=a/\a<=9223372036854775807) {h:Hp} {Q:Int×Bool->Hp->Prop} (hq:Q (a,true) h):
 ZA TP 334 [Value.agg #[Value.int .u64 0,Value.int .u64 a]] (ZW [cI .i64,cB]) h Q:=by
 refine c334 (p0:=⟨0,a⟩) ?_;unfold F334;refine ZN (λt h'=>t=false/\h'=h) ?_ λJ hJ=>?_
 .rintro t h' ⟨rfl,rfl⟩;refine ZT rfl ?_;rw [w64 (by omega) ha.2];exact hq
 .exact ZT rfl (hJ _ _ ⟨decide_eq_false (by dsimp only; omega),rfl⟩)
def ZJ5 (a b:Int):Int×Bool:=if 0<b/\a>9223372036854775807-b then (0,false) else (a+b,true)
theorem ZS1 {a b:Int} (ha:-9223372036854775808<=a/\a<=9223372036854775807) (hb:0<=b/\b<=9223372036854775807) {h:Hp} {Q:Int×Bool->Hp->Prop} (hq:Q (ZJ5 a b) h):
 ZA TP 335 [Value.int .i64 a,Value.int .i64 b] (ZW [cI .i64,cB]) h Q:=by
 refine c335 ?_;unfold F335;unfold ZJ5 at hq;refine ZN (λt h'=>h'=h/\t=decide (0<b/\a>9223372036854775807-b)) ?_ λJ hJ=>?_
 .rintro t h' ⟨rfl,rfl⟩;refine ZJ (λhc=>?_) λhc=>?_
  .rwa [if_pos hc] at hq
  .rw [if_neg hc] at hq;rw [w64 (by omega) (by omega)];exact hq
 .rw [w64 (n:=9223372036854775807-b) (by omega) (by omega)];refine ZJ (λh1=>ZJ (λh2=>hJ _ _ ⟨rfl,(decide_eq_true ⟨h1,h2⟩).symm⟩) λh2=>ZT (decide_eq_false (by omega)) (hJ _ _ ⟨rfl,(decide_eq_false (by omega)).symm⟩)) λh1=>ZT (decide_eq_false (by omega)) (hJ _ _ ⟨rfl,(decide_eq_false (by omega)).symm⟩)
def ZCt (p:Option Addr) (ps:List ZAa) (us:List Int) (c:Hp):Prop:=
 ∃ (b:Nat) (s1 s2:Sl) (d1 d2:Hp),p=some ⟨b,0,none⟩/\On c [ob b [sv s1,sv s2] 170,d1,d2]/\Own Z2 d1 s1 ps/\Own (cI .i64) d2 s2 us/\us.length=ps.length/\∀ u∈us,0<=u/\u<=9223372036854775807
def ZDw (ps:List ZAa) (who:Int):Option ZAa:=if who<0 then none else ps[who.toNat]?
def ZIF (ps:List ZAa) (who:Int):Int:=((ZDw ps who).map ZAa.Role).getD 0
def ZZA (role kind:Int):Bool:=
 if kind=6\/kind=7\/kind=8 then role==1||role==2
 else if kind=9\/kind=12\/kind=13\/kind=16 then role==1
 else if kind=10\/kind=11\/kind=14\/kind=15 then role==2
 else kind==17&&role==3
def ZIx (ps:List ZAa) (who dealers:Int):Int:=match ZDw ps who with
 | none=>5
 | some x=>if x.Role≠1 then 5 else if dealers=0\/ZGP .u64 dealers x.Asks≠0 then 1 else 0
def ZEh (ps:List ZAa) (us:List Int) (who price qty:Int):Int×Int:=match ZDw ps who with
 | none=>(0,5)
 | some x=>if x.Role≠2 then (0,5) else if price<1\/qty<1 then (0,1) else
   if (ZJ5 ((us[who.toNat]?).getD 0) (price*qty)).2=false then (0,15) else if x.Cap<(ZJ5 ((us[who.toNat]?).getD 0) (price*qty)).1 then (0,14) else ((ZJ5 ((us[who.toNat]?).getD 0) (price*qty)).1,0)
def ZJx (ps:List ZAa) (us:List Int) (who price qty:Int):List Int×Int:=
 if (ZEh ps us who price qty).2=0 then (us.set who.toNat (ZEh ps us who price qty).1,0) else (us,(ZEh ps us who price qty).2)
section
variable {p:Option Addr} {ps:List ZAa} {us:List Int} {c h:Hp} {l:List Hp} {who:Int}
theorem ZL1 (hc:c.sub h) (w:ZCt p ps us c) {Q:Int→Hp→Prop} (hq:Q (ZIF ps who) h):ZA TP 199 [Value.pointer p,Value.int .i64 who] (cI .i64) h Q:=by
 obtain ⟨b,s1,s2,d1,d2,rfl,oc,w1,w2,hu,_⟩:=w;have hlen:=w1.1;have hob:(ob b [sv s1,sv s2] 170).sub h:=Hp.sub_trans (oc.mem (by simp)) hc;have hd1:d1.sub h:=Hp.sub_trans (oc.mem (by simp)) hc;refine c199 ?_;unfold F199;unfold ZIF ZDw at hq;refine ZN (λt h'=>h'=h/\t=decide (who<0\/who>=ps.length)) ?_ λJ hJ=>?_
 ·rintro t h' ⟨rfl,rfl⟩;refine ZJ (fun hc=>?_) fun hc=>?_
  .have e:((if who<0 then none else ps[who.toNat]?).map ZAa.Role).getD 0=0:=by
    split
    .rfl
    .rw [List.getElem?_eq_none (by omega)]; rfl
   rwa [e] at hq
  .rw [if_neg (by omega),List.getElem?_eq_getElem (by omega:who.toNat<ps.length)] at hq;dsimp only [ZR];refine ZF (cd:=cSl) (x:=s1) hob (i:=0) rfl ?_;refine ZL w1.row (by omega) (by omega) λa ha=>?_;exact Zg (cd:=Z2) (cf:=cI .i64) w1.row hd1 rfl ha (i:=who.toNat) (List.getElem?_eq_getElem (by omega)) rfl (k:=0) (y:=ps[who.toNat].Role) rfl hq
 .refine ZT rfl (ZJ (λh1=>hJ _ _ ⟨rfl,(decide_eq_true (.inl h1)).symm⟩) λh1=>?_);dsimp only [ZR];refine ZF (cd:=cSl) (x:=s1) hob (i:=0) rfl ?_;refine hJ _ _ ⟨rfl,?_⟩;exact decide_eq_decide.2 (by omega)
theorem ZYz {kind:Int} (hc:c.sub h) (w:ZCt p ps us c) {Q:Bool→Hp→Prop} (hq:Q (ZZA (ZIF ps who) kind) h):ZA TP 130 [Value.pointer p,Value.int .i64 who,Value.int .i64 kind] cB h Q:=by
 refine c130 ?_;unfold F130;refine ZL1 hc w ?_;generalize ZIF ps who=r at hq;unfold ZZA at hq;refine ZN (λt h'=>h'=h/\t=decide (kind=6\/kind=7\/kind=8)) ?_ λJ hJ=>?_
 ·rintro t h' ⟨rfl,rfl⟩;refine ZJ (fun hk=>?_) fun hk=>?_
  .rw [if_pos hk] at hq;exact ZD (λe=>by rwa [e] at hq) λe=>by rwa [e] at hq
  ·rw [if_neg hk] at hq;refine ZN (fun t h2=>h2=h'∧t=decide (kind=9∨kind=12∨kind=13∨kind=16)) ?_ fun J hJ=>?_
   ·rintro t h' ⟨rfl,rfl⟩;refine ZJ (fun hk=>?_) fun hk=>?_
    .rwa [if_pos hk] at hq
    .rw [if_neg hk] at hq;refine ZN (λt h2=>h2=h'/\t=decide (kind=10\/kind=11\/kind=14\/kind=15)) ?_ λJ hJ=>?_
     .rintro t h' ⟨rfl,rfl⟩;refine ZJ (λhk=>?_) λhk=>?_
      .rwa [if_pos hk] at hq
      .rw [if_neg hk] at hq;exact ZD (λe=>by rwa [e] at hq) λe=>by rwa [e] at hq
     .refine ZD (λe=>hJ _ _ ⟨rfl,?_⟩) λe=>ZD (λe2=>hJ _ _ ⟨rfl,?_⟩) λe2=>ZD (λe3=>hJ _ _ ⟨rfl,?_⟩) λe3=>hJ _ _ ⟨rfl,?_⟩;all_goals (rw [Bool.eq_iff_iff]; simp_all)
   .refine ZD (λe=>hJ _ _ ⟨rfl,?_⟩) λe=>ZD (λe2=>hJ _ _ ⟨rfl,?_⟩) λe2=>ZD (λe3=>hJ _ _ ⟨rfl,?_⟩) λe3=>hJ _ _ ⟨rfl,?_⟩;all_goals (rw [Bool.eq_iff_iff]; simp_all)
 .refine ZD (λe=>hJ _ _ ⟨rfl,?_⟩) λe=>ZD (λe2=>hJ _ _ ⟨rfl,?_⟩) λe2=>hJ _ _ ⟨rfl,?_⟩;all_goals (rw [Bool.eq_iff_iff]; simp_all)
theorem ZIo {x:ZAa} (h:ZDw ps who=some x):ZIF ps who=x.Role:=by unfold ZIF; rw [h]; rfl
theorem ZGC (h:ZDw ps who=none):ZIF ps who=0:=by unfold ZIF; rw [h]; rfl
theorem ZGm {x:ZAa} (h:ZDw ps who=some x):0<=who/\who<ps.length/\ps[who.toNat]?=some x:=by
 unfold ZDw at h;split at h
 .cases h
 .have:=(List.getElem?_eq_some_iff.1 h).1;exact ⟨by omega,by omega,h⟩
theorem ZVT {ds:Int} (hc:c.sub h) (w:ZCt p ps us c) {Q:Int→Hp→Prop} (hq:Q (ZIx ps who ds) h):ZA TP 220 [Value.pointer p,Value.int .i64 who,Value.int .u64 ds] (cI .i64) h Q:=by
 refine c220 ?_;unfold F220;refine ZT (by obtain ⟨b,s1,s2,d1,d2,rfl,_⟩:=w; rfl) ?_;refine ZL1 hc w ?_;unfold ZIx at hq;cases hp:ZDw ps who with
 | none=>
   rw [hp] at hq;rw [ZGC hp];exact Zh rfl hq
 | some x=>
   rw [hp] at hq;rw [ZIo hp];dsimp only at hq;obtain ⟨h0,h1,hx⟩:=ZGm hp;refine ZD (λe=>?_) λe=>?_
   .rwa [if_pos (by simpa using e)] at hq
   .rw [if_neg (by simpa using e)] at hq;refine ZN (λt h'=>h'=h/\t=decide (ds=0\/ZGP .u64 ds x.Asks≠0)) ?_ λJ hJ=>?_
    .rintro t h' ⟨rfl,rfl⟩;refine ZJ (λhc=>?_) λhc=>?_
     .rwa [if_pos hc] at hq
     .rwa [if_neg hc] at hq
    .refine ZD (λe=>hJ _ _ ⟨rfl,?_⟩) λe=>?_
     .rw [Bool.eq_iff_iff]; simp_all
     .obtain ⟨b,s1,s2,d1,d2,rfl,oc,w1,w2,hu,_⟩:=w;have hlen:=w1.1;dsimp only [ZR];have hob:(ob b [sv s1,sv s2] 170).sub h:=Hp.sub_trans (oc.mem (by simp)) hc;refine ZF (cd:=cSl) (x:=s1) hob (i:=0) rfl ?_;refine ZL w1.row h0 h1 λa ha=>?_;rw [w1.part_at ha];refine Zg (cd:=Z2) (cf:=cI .u64) w1.row (Hp.sub_trans (oc.mem (by simp)) hc) rfl ha (i:=who.toNat) hx rfl (k:=1) (y:=x.Asks) rfl (hJ _ _ ⟨rfl,?_⟩);rw [Bool.eq_iff_iff]; simp_all
theorem ZRL {price qty:Int} (hc:c.sub h) (w:ZCt p ps us c) (h1:price≤1000000) (h2:qty≤1000000) {Q:Int×Int→Hp→Prop} (hq:Q (ZEh ps us who price qty) h):
 ZA TP 291 [Value.pointer p,Value.int .i64 who,Value.int .i64 price,Value.int .i64 qty] (ZW [cI .i64,cI .i64]) h Q:=by
 refine c291 ?_;unfold F291;refine ZT (by obtain ⟨b,s1,s2,d1,d2,rfl,_⟩:=w; rfl) ?_;refine ZL1 hc w ?_;unfold ZEh at hq;cases hp:ZDw ps who with
 | none=>
   rw [hp] at hq;rw [ZGC hp];exact Zh rfl hq
 | some x=>
   rw [hp] at hq;rw [ZIo hp];dsimp only at hq;obtain ⟨h0,hlt,hx⟩:=ZGm hp;refine ZD (λe=>?_) λe=>?_
   .rwa [if_pos (by simpa using e)] at hq
   ·rw [if_neg (by simpa using e)] at hq;refine ZN (fun t h'=>h'=h∧t=decide (price<1∨qty<1)) ?_ fun J hJ=>?_
    ·rintro t h' ⟨rfl,rfl⟩;refine ZJ (fun hc1=>?_) fun hc1=>?_
     .rwa [if_pos hc1] at hq
     .rw [if_neg hc1] at hq;have hn0:0<=price*qty:=Int.mul_nonneg (by omega) (by omega);have hbig:price*qty<=9223372036854775807:=Int.le_trans (Int.mul_le_mul h1 h2 (by omega) (by decide)) (by decide);refine ZJF ⟨by omega,by omega⟩ ⟨by omega,by omega⟩ ?_;refine ZQx ⟨hn0,hbig⟩ (ZT rfl ?_);obtain ⟨b,s1,s2,d1,d2,rfl,oc,w1,w2,hu,hr⟩:=w;have hl1:=w1.1;have hl2:=w2.1;have hob:(ob b [sv s1,sv s2] 170).sub h':=Hp.sub_trans (oc.mem (by simp)) hc;have hd1:d1.sub h':=Hp.sub_trans (oc.mem (by simp)) hc;have hd2:d2.sub h':=Hp.sub_trans (oc.mem (by simp)) hc;have hlu:who.toNat<us.length:=by omega
      dsimp only [ZR];refine ZF (cd:=cSl) (x:=s2) hob (i:=1) rfl ?_;refine ZL w2.row h0 (by omega) λa ha=>ZO w2.row hd2 rfl ha (i:=who.toNat) (List.getElem?_eq_getElem hlu) rfl ?_;have hrr:=hr us[who.toNat] (List.getElem_mem hlu);have eg:(us[who.toNat]?).getD 0=us[who.toNat]:=by rw [List.getElem?_eq_getElem hlu]; rfl
      rw [eg] at hq;refine ZS1 (by omega) ⟨hn0,hbig⟩ ?_;refine ZD (λe=>?_) λe=>?_
      .rwa [if_pos (by simpa using e)] at hq
      .rw [if_neg (by simpa using e)] at hq;refine ZF (cd:=cSl) (x:=s1) hob (i:=0) rfl ?_;refine ZL w1.row h0 hlt λa ha=>?_;rw [w1.part_at ha];refine Zg (cd:=Z2) (cf:=cI .i64) w1.row hd1 rfl ha (i:=who.toNat) hx rfl (k:=2) (y:=x.Cap) rfl ?_;refine ZJ (λhc=>?_) λhc=>?_
       .rwa [if_pos (by omega)] at hq
       .rwa [if_neg (by omega)] at hq
    .refine ZJ (λh1=>hJ _ _ ⟨rfl,(decide_eq_true (.inl h1)).symm⟩) λh1=>hJ _ _ ⟨rfl,decide_eq_decide.2 (by omega)⟩
end
def inB (n a b:Int):Bool:=decide (a<=n/\n<=b)
def ZMY (b:Bond):Bool:=
 (inB b.Tick 1 1000000&&(inB b.Low 1 1000000&&inB b.High b.Low 1000000))&&((inB b.Lot 1 1000000&&(inB b.Min 1 1000000&&inB b.Max b.Min 1000000))&&decide (b.Max-b.Max.tmod b.Lot>=b.Min))
def ZFW (ps:List ZAa):Nat→Int
 | 0=>0
 | i+1=>match ps[i]? with
   | some x=>if x.Role=2 then orI .u64 (ZFW ps i) (ZLw .u64 1 i) else ZFW ps i
   | none=>ZFW ps i
def ZNo (all:Int) (x:ZAa):Bool:=
 if x.Role=1 then ZGP .u64 x.Asks all==0&&x.Cap==0
 else if x.Role=2 then x.Asks==0&&inB x.Cap 0 1099511627776
 else x.Role==3&&(x.Asks==0&&x.Cap==0)
def ZC8 (bs:List Bond) (ps:List ZAa) (look beat:Int):Bool:=
 inB bs.length 1 4&&(inB ps.length 1 8&&((!bs.any λb=>!ZMY b)&&((!ps.any λx=>!ZNo (ZFW ps ps.length) x)&&(inB look 1 1000&&inB beat 1 1000))))
theorem ZIQ {n a b:Int} {h:Hp} {Q:Bool->Hp->Prop} (hq:Q (inB n a b) h):ZA TP 195 [Value.int .i64 n,Value.int .i64 a,Value.int .i64 b] cB h Q:=ZWL hq
theorem ZKZ {n a b:Int} {h:Hp} {Q:Bool->Hp->Prop} (hq:Q (inB n a b) h):ZA TP 117 [Value.int .i64 n,Value.int .i64 a,Value.int .i64 b] cB h Q:=by refine c117 ?_;unfold F117;exact ZMb hq
theorem ZQg {b:Bond} {h:Hp} {Q:Bool→Hp→Prop} (hq:Q (ZMY b) h):ZA TP 119 [ZAB.enc b] cB h Q:=by
 refine c119 ?_;unfold F119;unfold ZMY at hq;generalize h1:(inB b.Tick 1 1000000&&(inB b.Low 1 1000000&&inB b.High b.Low 1000000))=A at hq;generalize h2:(inB b.Lot 1 1000000&&(inB b.Min 1 1000000&&inB b.Max b.Min 1000000))=B at hq;refine ZN (λt h'=>h'=h/\t=A) ?_ λJ hJ=>?_
 ·rintro t h' ⟨rfl,rfl⟩;refine ZN (fun t2 h2=>h2=h'∧t2=B) ?_ fun J hJ=>?_
  ·rintro t2 h' ⟨rfl,rfl⟩;refine ZD (fun e=>?_) fun e=>?_
   .subst e;refine ZD (λe=>?_) λe=>?_
    .subst e;simp only [Bool.and_eq_true,inB,decide_eq_true_eq] at h2;refine ⟨by omega,?_⟩;have hm0:0<=b.Max.tmod b.Lot:=Int.tmod_nonneg _ (by omega);have hm1:b.Max.tmod b.Lot<b.Lot:=by rw [Int.tmod_eq_emod_of_nonneg (by omega)];exact Int.emod_lt_of_pos _ (by omega)
     rw [w64 (by omega) (by omega)];exact hq
    .subst e; exact hq
   .subst e; exact hq
  .refine ZIQ (ZD (λe=>?_) λe=>?_)
   .refine ZIQ (ZD (λe2=>?_) λe2=>?_)
    .refine ZIQ (hJ _ _ ⟨rfl,?_⟩);rw [<-h2,e,e2]; rfl
    .refine hJ _ _ ⟨rfl,?_⟩;rw [<-h2,e,e2]; rfl
   .refine hJ _ _ ⟨rfl,?_⟩;rw [<-h2,e]; rfl
 .refine ZIQ (ZD (λe=>?_) λe=>?_)
  .refine ZIQ (ZD (λe2=>?_) λe2=>?_)
   .refine ZIQ (hJ _ _ ⟨rfl,?_⟩);rw [<-h1,e,e2]; rfl
   .refine hJ _ _ ⟨rfl,?_⟩;rw [<-h1,e,e2]; rfl
  .refine hJ _ _ ⟨rfl,?_⟩;rw [<-h1,e]; rfl
theorem ZYb:Clo TP [] ⟨118,#[],#[]⟩ (λx=>[ZAB.enc x]) cB (λb:Bond=>!ZMY b):=by intro x h l Q hcc o hq;refine ⟨⟨Tryz.f118,_,Tryz.func118,rfl⟩,?_⟩;refine c118 ?_;unfold F118;exact ZQg (hq h o)
theorem ZTt {x:ZAa} {all:Int} {h:Hp} {Q:Bool->Hp->Prop} (hq:Q (ZNo all x) h):ZA TP 122 [Z2.enc x,Value.int .u64 all] cB h Q:=by
 refine c122 ?_;unfold F122;unfold ZNo at hq;refine ZD (λe=>?_) λe=>?_
 .rw [if_pos (by simpa using e)] at hq;exact ZD (λe=>by rwa [e] at hq) λe=>by rwa [e] at hq
 .rw [if_neg (by simpa using e)] at hq;refine ZD (λe=>?_) λe=>?_
  .rw [if_pos (by simpa using e)] at hq;exact ZD (λe=>by rw [e] at hq; exact ZKZ hq) λe=>by rwa [e] at hq
  .rw [if_neg (by simpa using e)] at hq;exact ZD (λe=>by rw [e] at hq; exact ZD (λe=>by rwa [e] at hq) λe=>by rwa [e] at hq) λe=>by rwa [e] at hq
theorem ZY7 {k0:Nat} {all:Int}:Clo TP [ob k0 [Value.int .u64 all] 48] ⟨121,#[],#[.pointer (some ⟨k0,0,none⟩)]⟩ (λx=>[Z2.enc x]) cB (λx:ZAa=>!ZNo all x):=by intro x h l Q hcc o hq;refine ⟨⟨Tryz.f121,_,Tryz.func121,rfl⟩,?_⟩;refine c121 ?_;unfold F121;have m0:=o.mem (hcc (ob k0 [Value.int .u64 all] 48) (by simp));refine ZF (cd:=cI .u64) (x:=all) m0 (i:=0) rfl ?_;exact ZTt (hq h o)
theorem ZPB {s:Sl} {g h:Hp} {ps:List ZAa} (r:Row Z2 g s ps) (hg:g.sub h) (hl:ps.length≤1000) {Q:Int→Hp→Prop} (hq:Q (ZFW ps ps.length) h):ZA TP 120 [Value.slice s.a s.len s.cap] (cI .u64) h Q:=by
 refine c120 ?_;unfold F120;have hlen:=r.1;refine Zb (λz h'=>∃ i:Nat,z=(ZFW ps i,(i:Int))/\i<=ps.length/\h'=h) (λz=>ps.length-z.2.toNat) ⟨0,rfl,Nat.zero_le _,rfl⟩ ?_;rintro J z h' again ⟨i,rfl,hi,rfl⟩
 dsimp only;refine ZJ (λhlt=>?_) λhge=>?_
 .have hi':i<ps.length:=by omega
  have a0:ps[i]?=some ps[i]:=List.getElem?_eq_getElem hi';have est:ZFW ps (i+1)=if ps[i].Role=2 then orI .u64 (ZFW ps i) (ZLw .u64 1 i) else ZFW ps i:=by
   conv=>lhs; unfold ZFW
   rw [a0]
  rw [ZAQ (by omega)];refine ZN (λn h2=>n=ZFW ps (i+1)/\h2=h') ?_ λJ2 hJ2=>?_
  .rintro n h2 ⟨rfl,rfl⟩;exact again _ _ ⟨i+1,rfl,by omega,rfl⟩ (by dsimp only; omega)
  .refine ZL r (Int.natCast_nonneg i) (by omega) λa ha=>ZO r hg rfl ha (i:=i) a0 (by rfl) ?_;refine ZD (λe=>⟨Int.natCast_nonneg i,hJ2 _ _ ⟨?_,rfl⟩⟩) λe=>hJ2 _ _ ⟨?_,rfl⟩
   .rw [est,if_pos (by simpa using e)]
   .rw [est,if_neg (by simpa using e)]
 .have:i=ps.length:=by omega
  subst this;exact hq
section
variable {h:Hp} {l:List Hp} {sb sp:Sl} {gb gp:Hp} {bs:List Bond} {ps:List ZAa} {look beat:Int}
theorem ZPn (o:On h l) (hb:gb∈l) (rb:Row ZAB gb sb bs) (hp:gp∈l) (rp:Row Z2 gp sp ps) (h1:bs.length≤1000) (h2:ps.length≤1000) {Q:Bool→Hp→Prop} (hq:∀ h',On h' l→Q (ZC8 bs ps look beat) h'):
 ZA TP 73 [ZAq.enc ⟨sb,sp,look,beat⟩] cB h Q:=by
 refine c73 (p0:=⟨sb,sp,look,beat⟩) ?_;unfold F73;have hlb:=rb.1;have hlp:=rp.1;unfold ZC8 at hq;refine ZN (λt h'=>h'=h/\t=(!inB bs.length 1 4||!inB ps.length 1 8)) ?_ λJ hJ=>?_
 ·rintro t h' ⟨rfl,rfl⟩;refine ZD (fun e=>?_) fun e=>?_
  ·have hq:=hq h' o;cases e1:inB bs.length 1 4 with
   | false=>rwa [e1] at hq
   | true=>
     rw [e1] at hq e;cases e2:inB ps.length 1 8 with
     | false=>rwa [e2] at hq
     | true=>rw [e2] at e; cases e
  ·have e1:inB bs.length 1 4=true:=by
    cases e1:inB bs.length 1 4 with
    | true=>rfl
    | false=>rw [e1] at e; cases e
   have e2:inB ps.length 1 8=true:=by
    cases e2:inB ps.length 1 8 with
    | true=>rfl
    | false=>rw [e1,e2] at e; cases e
   rw [e1,e2] at hq;refine ZPB rp (o.mem hp) h2 ?_;refine ZH o λk1 h1 o1=>?_;refine ZZ (cd:=cI .u64) (i:=0) (x:=ZFW ps ps.length) (vs':=[Value.int .u64 (ZFW ps ps.length)]) o1 rfl rfl (Nat.le_refl 1) λh2 o2=>?_;refine ZLL (f:=⟨118,#[],#[]⟩) ZYb o2 (by simp) (g:=gb) (by simp [hb]) rb (by omega) λh3 o3=>?_;refine ZD (λe3=>?_) λe3=>?_
   .rw [e3] at hq;refine ZKV (f:=⟨121,#[],#[.pointer (some ⟨k1,0,none⟩)]⟩) (ZY7 (k0:=k1) (all:=ZFW ps ps.length)) o3 (by simp) (g:=gp) (by simp [hp]) rp (by omega) λh4 o4=>?_;refine ZD (λe4=>?_) λe4=>?_
    .rw [e4] at hq;refine ZKZ (ZD (λe5=>?_) λe5=>?_)
     .rw [e5] at hq;exact ZKZ (hq h4 o4.tail)
     .rw [e5] at hq;exact hq h4 o4.tail
    .rw [e4] at hq;exact hq h4 o4.tail
   .rw [e3] at hq;exact hq h3 o3.tail
 .dsimp only;rw [hlb,hlp];refine ZKZ (ZD (λe=>?_) λe=>?_)
  .exact hJ _ _ ⟨rfl,by rw [e]; rfl⟩
  .refine ZKZ (hJ _ _ ⟨rfl,?_⟩);rw [e]; rfl
end
theorem ZLQ:∀ n:Nat,Z3 n [Value.int .i64 0]=ZG (cI .i64) (List.replicate n 0)
 | 0=>rfl
 | n+1=>by show Value.int .i64 0::Z3 n [Value.int .i64 0]=Value.int .i64 0::ZG (cI .i64) (List.replicate n 0);rw [ZLQ n]
theorem ZHK {k n:Nat} {e:TypeId}:Own (cI .i64) (ob k (Z3 n [Value.int .i64 0]) e) ⟨some ⟨k,0,none⟩,n,n⟩ (List.replicate n 0):=
 ZBN (rest:=[]) (by rw [ZLQ,List.append_nil]) (by simp) (by simp)
section
variable {p:Option Addr} {ps:List ZAa} {us:List Int} {c h:Hp} {l:List Hp} {who:Int}
theorem ZPe {sb sp:Sl} {gb gp:Hp} {bs:List Bond} {look beat:Int} (o:On h l) (hb:gb∈l) (rb:Row ZAB gb sb bs) (hp:gp∈l) (rp:Row Z2 gp sp ps) (h1:bs.length<=1000) (h2:ps.length<=1000)
 {Q:Option Addr->Hp->Prop} (hn:ZC8 bs ps look beat=true) (hq:∀ p c h',On h' (c::l)->ZCt p ps (List.replicate ps.length 0) c->Q p h'):
 ZA TP 33 [ZAq.enc ⟨sb,sp,look,beat⟩] cP h Q:=by
 refine c33 (p0:=⟨sb,sp,look,beat⟩) ?_;unfold F33;have hlp:=rp.1;refine ZPn o hb rb hp rp h1 h2 λh3 o3=>?_;rw [hn];refine ZT rfl ?_;dsimp only;refine ZLG o3 (g:=gp) hp rp (by omega) λs4 d4 h4 o4 w4=>?_;refine ⟨by omega,by omega,by omega,by omega,?_⟩;refine ZH o4 λk5 h5 o5=>?_;refine ZH o5 λk6 h6 o6=>?_;have e:((sp.len:Int)).toNat=ps.length:=by omega
 rw [e] at o5 o6;obtain ⟨o7,o8⟩:=On.joined (cs:=[ob k6 [sv s4,Value.slice (some ⟨k5,0,none⟩) ps.length ps.length] 170,d4,ob k5 (Z3 ps.length [Value.int .i64 0]) 2]) (l:=l) (o6.perm ((List.Perm.swap _ _ _).cons _));refine hq _ _ h6 o7 ⟨k6,s4,⟨some ⟨k5,0,none⟩,ps.length,ps.length⟩,d4,_,rfl,o8,w4,ZHK,by simp,λu hu=>?_⟩;have:=List.eq_of_mem_replicate hu;omega
theorem ZWh {price qty:Int} (hc:c.sub h) (w:ZCt p ps us c) (h1:price<=1000000) (h2:qty<=1000000) {Q:Int->Hp->Prop} (hq:Q (ZEh ps us who price qty).2 h):
 ZA TP 286 [Value.pointer p,Value.int .i64 who,Value.int .i64 price,Value.int .i64 qty] (cI .i64) h Q:=by
 refine c286 ?_;unfold F286;exact ZRL hc w h1 h2 hq
theorem ZOj {price qty:Int} (w:ZCt p ps us c) (he:(ZEh ps us who price qty).2=0):0≤who∧who<ps.length∧0≤(ZEh ps us who price qty).1∧(ZEh ps us who price qty).1≤9223372036854775807:=by
 obtain ⟨b,s1,s2,d1,d2,rfl,oc,w1,w2,hu,hr⟩:=w;unfold ZEh at he ⊢;cases hp:ZDw ps who with
 | none=>rw [hp] at he; cases he
 | some x=>
   rw [hp] at he;obtain ⟨h0,hlt,hx⟩:=ZGm hp;dsimp only at he ⊢;have hlu:who.toNat<us.length:=by omega
   have eg:(us[who.toNat]?).getD 0=us[who.toNat]:=by rw [List.getElem?_eq_getElem hlu]; rfl
   have hrr:=hr us[who.toNat] (List.getElem_mem hlu);rw [eg] at he ⊢;refine ⟨h0,hlt,?_⟩;by_cases c1:x.Role≠2
   .rw [if_pos c1] at he; cases he
   ·rw [if_neg c1] at he ⊢;by_cases c2:price<1∨qty<1
    .rw [if_pos c2] at he; cases he
    ·rw [if_neg c2] at he ⊢;by_cases c3:(ZJ5 us[who.toNat] (price*qty)).2=false
     .rw [if_pos c3] at he; cases he
     .rw [if_neg c3] at he ⊢;by_cases c4:x.Cap<(ZJ5 us[who.toNat] (price*qty)).1
      .rw [if_pos c4] at he; cases he
      .rw [if_neg c4];have hn0:0<=price*qty:=Int.mul_nonneg (by omega) (by omega);unfold ZJ5 at c3 ⊢;split at c3
       .exact absurd rfl c3
       .rename_i hh;rw [if_neg hh];dsimp only;omega
theorem ZYa {price qty:Int} (o:On h (c::l)) (w:ZCt p ps us c) (h1:price<=1000000) (h2:qty<=1000000) {Q:Int->Hp->Prop} (hq:∀ c' h',On h' (c'::l)->ZCt p ps (ZJx ps us who price qty).1 c'->Q (ZJx ps us who price qty).2 h'):
 ZA TP 216 [Value.pointer p,Value.int .i64 who,Value.int .i64 price,Value.int .i64 qty] (cI .i64) h Q:=by
 refine c216 ?_;unfold F216;refine ZRL (o.mem (by simp)) w h1 h2 ?_;unfold ZJx at hq;refine ZD (λe=>?_) λe=>?_
 .have e:(ZEh ps us who price qty).2=0:=by simpa using e
  rw [if_pos e] at hq;rw [e];obtain ⟨hr1,hr2,hr3,hr4⟩:=ZOj w e;obtain ⟨b,s1,s2,d1,d2,rfl,oc,w1,w2,hu,hr⟩:=w;have o1:=o.split oc;dsimp only [ZR];refine ZI (x:=s2) o1 0 (i:=1) rfl rfl ?_;refine ZL w2.row hr1 (by omega) λa ha=>?_;refine ZBy (cd:=cI .i64) (xs:=us) (c:=d2) (l:=ob b [sv s1,sv s2] 170::d1::l) (o1.rot3) rfl w2 ha (i:=who.toNat) (by omega) rfl λc3 h3 o3 w3=>?_;obtain ⟨o4,o5⟩:=On.joined (cs:=[ob b [sv s1,sv s2] 170,d1,c3]) (l:=l) (o3.perm ((List.Perm.swap _ _ _).trans ((List.Perm.swap _ _ _).cons _)));refine hq _ h3 o4 ⟨b,s1,s2,d1,c3,rfl,o5,w1,w3,by rw [List.length_set]; exact hu,λu hu'=>?_⟩;rcases List.mem_or_eq_of_mem_set hu' with h|h
  .exact hr u h
  .subst h; exact ⟨hr3,hr4⟩
 .have e:¬(ZEh ps us who price qty).2=0:=by simpa using e
  rw [if_neg e] at hq;exact hq c h o w
end
theorem ZSA {a b:Int} {h:Hp} {Q:ZFU×Bool->Hp->Prop} (hq:∀ z,Q z h):ZA TP 332 [Value.int .i64 a,Value.int .i64 b] (ZW [ZAl,cB]) h Q:=by refine c332 ?_;unfold F332;refine ZN (λt h'=>h'=h) ?_ λJ hJ=>ZD (λ_=>hJ _ _ rfl) λ_=>hJ _ _ rfl;rintro t h' rfl;refine ZD (λ_=>hq _) λ_=>?_;refine c364 ?_;unfold F364;exact ⟨by decide,by decide,by decide,by decide,by decide,hq _⟩
theorem ZPb {a:ZFU} {h:Hp} {Q:Int×Bool->Hp->Prop} (hq:∀ z,Q z h):ZA TP 334 [ZAl.enc a] (ZW [cI .i64,cB]) h Q:=by refine c334 ?_;unfold F334;refine ZN (λt h'=>h'=h) ?_ λJ hJ=>ZD (λ_=>hJ _ _ rfl) λ_=>hJ _ _ rfl;rintro t h' rfl;exact ZD (λ_=>hq _) λ_=>hq _
theorem ZIS {a b:Int} {h:Hp} {Q:Int×Bool->Hp->Prop} (hq:∀ z,Q z h):ZA TP 335 [Value.int .i64 a,Value.int .i64 b] (ZW [cI .i64,cB]) h Q:=by
 refine c335 ?_;unfold F335;refine ZN (λt h'=>h'=h) ?_ λJ hJ=>?_
 .rintro t h' rfl;exact ZD (λ_=>hq _) λ_=>hq _
 .exact ZD (λ_=>ZD (λ_=>hJ _ _ rfl) λ_=>ZD (λ_=>hJ _ _ rfl) λ_=>hJ _ _ rfl) λ_=>ZD (λ_=>hJ _ _ rfl) λ_=>hJ _ _ rfl
theorem ZIh {a b:Int} {h:Hp} {Q:Int×Bool->Hp->Prop} (hq:∀ z,Q z h):ZA TP 337 [Value.int .i64 a,Value.int .i64 b] (ZW [cI .i64,cB]) h Q:=by
 refine c337 ?_;unfold F337;refine ZN (λt h'=>h'=h) ?_ λJ hJ=>?_
 .rintro t h' rfl;exact ZD (λ_=>hq _) λ_=>hq _
 .exact ZD (λ_=>ZD (λ_=>hJ _ _ rfl) λ_=>ZD (λ_=>hJ _ _ rfl) λ_=>hJ _ _ rfl) λ_=>ZD (λ_=>hJ _ _ rfl) λ_=>hJ _ _ rfl
def ZP8 (m:Nat) (sl:Sl) (d:Hp):Prop:=∃ xs:List Int,Own (cI .i64) d sl xs/\xs.length=m
def ZJE (p:Option Addr) (c:Hp):Prop:=
 ∃ (b:Nat) (s1 s2:Sl) (d1 d2:Hp) (rows:List Sl) (cash:List Int) (ds:List Hp) (m:Nat),p=some ⟨b,0,none⟩/\On c (ds++[ob b [sv s1,sv s2] 179,d1,d2])/\Own cSl d1 s1 rows/\Own (cI .i64) d2 s2 cash/\cash.length=rows.length/\ZC1 (ZP8 m) rows ds
theorem ZP8.row {m:Nat} {rows:List Sl} {ds:List Hp} (w:ZC1 (ZP8 m) rows ds) {i:Nat} (hi:i<rows.length):∃ sl d xs,rows[i]?=some sl/\ds[i]?=some d/\Own (cI .i64) d sl xs/\xs.length=m:=by obtain ⟨d,hd,xs,hx⟩:=w.get i rows[i] (List.getElem?_eq_getElem hi);exact ⟨rows[i],d,xs,List.getElem?_eq_getElem hi,hd,hx⟩
theorem ZC1.setr {α β:Type} {R:α→β→Prop}:∀ {l:List α} {m:List β},ZC1 R l m→∀ (i:Nat) (a:α) (b:β),l[i]?=some a→R a b→ZC1 R l (m.set i b)
 | [],[],_,_,_,_,h,_=>by cases h
 | x::l,y::m,h,0,a,b,ha,hab=>by
   cases ha;exact ⟨hab,h.2⟩
 | x::l,y::m,h,i+1,a,b,ha,hab=>⟨h.1,ZC1.setr h.2 i a b ha hab⟩
 | [],_::_,h,_,_,_,_,_=>h.elim
 | _::_,[],h,_,_,_,_,_=>h.elim
section
variable {c h:Hp} {l:List Hp} {who bond:Int} {b:Nat} {s1 s2:Sl} {d1 d2:Hp} {rows:List Sl} {cash:List Int} {ds:List Hp} {m:Nat}
theorem ZNi (o:On h (ds++(ob b [sv s1,sv s2] 179::d1::d2::l))) (w1:Own cSl d1 s1 rows) (w2:Own (cI .i64) d2 s2 cash) (hc:cash.length=rows.length) (w3:ZC1 (ZP8 m) rows ds) {Q:Bool->Hp->Prop}
 (hq:∀ t:Bool,(t=true->0<=who/\who<rows.length/\0<=bond/\bond<m)->Q t h):ZA TP 336 [Value.pointer (some ⟨b,0,none⟩),Value.int .i64 who,Value.int .i64 bond] cB h Q:=by
 refine c336 ?_;unfold F336;have hl1:=w1.1;have hl2:=w2.1;have hob:(ob b [sv s1,sv s2] 179).sub h:=o.mem (by simp);have hd1:d1.sub h:=o.mem (by simp);refine Zh rfl (ZJ (λh0=>?_) λ_=>hq _ (by simp));dsimp only [ZR];refine ZF (cd:=cSl) (x:=s2) hob (i:=1) rfl ?_;refine ZJ (λh1=>ZJ (λh2=>?_) λ_=>hq _ (by simp)) λ_=>hq _ (by simp);obtain ⟨sl,d,xs,hsl,hd,wx,hx⟩:=ZP8.row w3 (i:=who.toNat) (by omega);refine ZF (cd:=cSl) (x:=s1) hob (i:=0) rfl ?_;refine ZL w1.row h0 (by omega) λa ha=>ZO w1.row hd1 rfl ha (i:=who.toNat) hsl rfl ?_;have:=wx.1;refine hq _ λe=>?_;have e:bond<(sl.len:Int):=by simpa using e
 exact ⟨h0,by omega,h2,by omega⟩
theorem ZIa {i:Nat} {v:Int} {sl:Sl} (o:On h (ds++l)) (w3:ZC1 (ZP8 m) rows ds) (hi:rows[i]?=some sl) {n:Int} (h0:0<=n) (h1:n<m) {K:Hp->Prop} (hk:∀ ds' h',On h' (ds'++l)->ZC1 (ZP8 m) rows ds'->K h'):
 Zl sl.a sl.len n λa=>ZV (cI .i64) (a.add (n.toNat*1)) v h K:=by
 have hlt:=(List.getElem?_eq_some_iff.1 hi).1;obtain ⟨sl',d,xs,hsl,hd,wx,hx⟩:=ZP8.row w3 hlt;rw [hi] at hsl;cases hsl;refine ZL wx.row h0 (by omega) λa ha=>?_;refine ZBy (cd:=cI .i64) (o.at' i hd) rfl wx ha (i:=n.toNat) (by omega) rfl λc3 h3 o3 w4=>?_;exact hk _ h3 (o3.back' (by have:=w3.len; omega)) (ZC1.setr w3 i sl c3 hi ⟨_,w4,by rw [List.length_set]; exact hx⟩)
end
theorem ZRW {p:Option Addr} {c h:Hp} {l:List Hp} {t:ZAr} (o:On h (c::l)) (w:ZJE p c) {Q:Int→Hp→Prop} (hq:∀ r c' h',On h' (c'::l)→ZJE p c'→Q r h'):ZA TP 292 [Value.pointer p,Z4.enc t] (cI .i64) h Q:=by
 obtain ⟨b,s1,s2,d1,d2,rows,cash,ds,m,rfl,oc,w1,w2,hc,w3⟩:=w;have o0:On h (ds++(ob b [sv s1,sv s2] 179::d1::d2::l)):=by have:=o.split oc;rwa [List.append_assoc] at this
 have shut:∀ {h':Hp} {ds':List Hp} {d2':Hp} {cash':List Int},On h' (ds'++(ob b [sv s1,sv s2] 179::d1::d2'::l))->ZC1 (ZP8 m) rows ds'->Own (cI .i64) d2' s2 cash'->cash'.length=rows.length->∃ c',On h' (c'::l)/\ZJE (some ⟨b,0,none⟩) c':=by intro h' ds' d2' cash' o' w3' w2' hc';obtain ⟨o7,o8⟩:=On.joined (cs:=ds'++[ob b [sv s1,sv s2] 179,d1,d2']) (l:=l) (by rw [List.append_assoc]; exact o');exact ⟨_,o7,b,s1,s2,d1,d2',rows,cash',ds',m,rfl,o8,w1,w2',hc',w3'⟩
 have hl1:=w1.1;have hl2:=w2.1;refine c292 ?_;unfold F292;refine ZN (λu h'=>h'=h/\(u=false->(0<=t.Buyer/\t.Buyer<rows.length)/\(0<=t.Seller/\t.Seller<rows.length)/\0<=t.Bond/\t.Bond<m)) ?_ λJ hJ=>?_
 ·rintro u h' ⟨rfl,hu⟩;refine ZD (fun _=>?_) fun e=>?_
  .obtain ⟨c',o',w'⟩:=shut o0 w3 w2 hc;exact hq _ c' h' o' w'
  ·obtain ⟨hb,hs,h0,h1⟩:=hu e;have hob:(ob b [sv s1,sv s2] 179).sub h':=o0.mem (by simp);have hd1:d1.sub h':=o0.mem (by simp);have hd2:d2.sub h':=o0.mem (by simp);obtain ⟨slb,db,xb,hslb,hdb,wxb,hxb⟩:=ZP8.row w3 (i:=t.Buyer.toNat) (by omega);obtain ⟨sls,dS,xS,hsls,hdS,wxS,hxS⟩:=ZP8.row w3 (i:=t.Seller.toNat) (by omega);have hsb:db.sub h':=o0.mem (by simp [List.mem_of_getElem? hdb]);have hss:dS.sub h':=o0.mem (by simp [List.mem_of_getElem? hdS]);refine ZSA fun z1=>ZPb fun z2=>?_;dsimp only [ZR];refine ZF (cd:=cSl) (x:=s1) hob (i:=0) rfl ?_;refine ZL w1.row hb.1 (by omega) fun a2 ha2=>ZO w1.row hd1 rfl ha2 (i:=t.Buyer.toNat) hslb rfl ?_;refine ZL wxb.row h0 (by omega) fun a3 ha3=>ZO wxb.row hsb rfl ha3 (i:=t.Bond.toNat) (List.getElem?_eq_getElem (by omega)) rfl ?_;refine ZIS fun z3=>?_;refine ZF (cd:=cSl) (x:=s1) hob (i:=0) rfl ?_;refine ZL w1.row hs.1 (by omega) fun a5 ha5=>ZO w1.row hd1 rfl ha5 (i:=t.Seller.toNat) hsls rfl ?_;refine ZL wxS.row h0 (by omega) fun a6 ha6=>ZO wxS.row hss rfl ha6 (i:=t.Bond.toNat) (List.getElem?_eq_getElem (by omega)) rfl ?_;refine ZIh fun z4=>?_;refine ZF (cd:=cSl) (x:=s2) hob (i:=1) rfl ?_;refine ZL w2.row hb.1 (by omega) fun a8 ha8=>ZO w2.row hd2 rfl ha8 (i:=t.Buyer.toNat) (List.getElem?_eq_getElem (by omega)) rfl ?_;refine ZIh fun z5=>?_;refine ZF (cd:=cSl) (x:=s2) hob (i:=1) rfl ?_;refine ZL w2.row hs.1 (by omega) fun a9 ha9=>ZO w2.row hd2 rfl ha9 (i:=t.Seller.toNat) (List.getElem?_eq_getElem (by omega)) rfl ?_;refine ZIS fun z6=>?_;refine ZN (fun u h2=>h2=h') ?_ fun J hJ=>?_
   ·rintro u h2 rfl;refine ZD (fun _=>?_) fun _=>?_
    .obtain ⟨c',o',w'⟩:=shut o0 w3 w2 hc;exact hq _ c' h2 o' w'
    ·refine ZF (cd:=cSl) (x:=s1) hob (i:=0) rfl ?_;refine ZL w1.row hb.1 (by omega) fun a2 ha2=>ZO w1.row hd1 rfl ha2 (i:=t.Buyer.toNat) hslb rfl ?_;refine ZF (cd:=cSl) (x:=s1) hob (i:=0) rfl ?_;refine ZL w1.row hs.1 (by omega) fun a5 ha5=>ZO w1.row hd1 rfl ha5 (i:=t.Seller.toNat) hsls rfl ?_;refine ZIa o0 w3 hslb h0 h1 fun ds3 h3 o3 w33=>?_;refine ZIa o3 w33 hsls h0 h1 fun ds4 h4 o4 w34=>?_;have hob4:(ob b [sv s1,sv s2] 179).sub h4:=o4.mem (by simp);refine ZF (cd:=cSl) (x:=s2) hob4 (i:=1) rfl ?_;refine ZF (cd:=cSl) (x:=s2) hob4 (i:=1) rfl ?_
     have pm:∀ (x:Hp) (ds':List Hp),(ds'++(ob b [sv s1,sv s2] 179::d1::x::l)).Perm (x::(ds'++(ob b [sv s1,sv s2] 179::d1::l))):=fun x ds'=>by
          have e1:ds'++(ob b [sv s1,sv s2] 179::d1::x::l)=(ds'++[ob b [sv s1,sv s2] 179,d1])++x::l:=by simp
          have e2:ds'++(ob b [sv s1,sv s2] 179::d1::l)=(ds'++[ob b [sv s1,sv s2] 179,d1])++l:=by simp
          rw [e1,e2];exact List.perm_middle
     refine ZL w2.row hb.1 (by omega) λa9 ha9=>?_;refine ZBy (cd:=cI .i64) (o4.perm (pm d2 ds4)) rfl w2 ha9 (i:=t.Buyer.toNat) (by omega) rfl λc5 h5 o5 w5=>?_;refine ZL w5.row hs.1 (by rw [List.length_set]; omega) λa10 ha10=>?_;refine ZBy (cd:=cI .i64) o5 rfl w5 ha10 (i:=t.Seller.toNat) (by rw [List.length_set]; omega) rfl λc6 h6 o6 w6=>?_;obtain ⟨c',o',w'⟩:=shut (o6.perm (pm c6 ds4).symm) w34 w6 (by rw [List.length_set,List.length_set]; exact hc);exact hq _ c' h6 o' w'
   .exact ZD (λ_=>hJ _ _ rfl) λ_=>ZD (λ_=>hJ _ _ rfl) λ_=>ZD (λ_=>hJ _ _ rfl) λ_=>ZD (λ_=>hJ _ _ rfl) λ_=>hJ _ _ rfl
 .refine ZNi o0 w1 w2 hc w3 λu hu=>?_;refine ZD (λ_=>hJ _ _ ⟨rfl,by simp⟩) λe1=>?_;have e1:u=true:=by simpa using e1
  refine ZNi o0 w1 w2 hc w3 λv hv=>?_;refine ZD (λ_=>hJ _ _ ⟨rfl,by simp⟩) λe2=>?_;have e2:v=true:=by simpa using e2
  have hu:=hu e1;have hv:=hv e2;refine ZD (λ_=>hJ _ _ ⟨rfl,by simp⟩) λ_=>ZD (λ_=>hJ _ _ ⟨rfl,by simp⟩) λ_=>hJ _ _ ⟨rfl,λ_=>⟨⟨hu.1,hu.2.1⟩,⟨hv.1,hv.2.1⟩,hu.2.2⟩⟩
theorem ZQW {s:Sl} {g h:Hp} {bs:List Int} {v:Int} (r:Row (cI .u8) g s bs) (hg:g.sub h) (hl:bs.length<=1000000) {Q:Int->Hp->Prop} (hq:∀ n,Q n h):ZA TP 339 [Value.int .u64 v,Value.slice s.a s.len s.cap] (cI .u64) h Q:=by
 refine c339 ?_;unfold F339;have hlen:=r.1;refine Zb (λz h'=>∃ i:Nat,z.2=(i:Int)/\i<=bs.length/\h'=h) (λz=>bs.length-z.2.toNat) ⟨0,rfl,Nat.zero_le _,rfl⟩ ?_;rintro J ⟨z,zi⟩ h' again ⟨i,hzi,hi,rfl⟩
 dsimp only at hzi;subst hzi;dsimp only;refine ZJ (λhlt=>?_) λhge=>⟨by decide,hq _⟩
 have hi':i<bs.length:=by omega
 refine ZL r (Int.natCast_nonneg i) (by omega) λa ha=>ZO r hg rfl ha (i:=i) (List.getElem?_eq_getElem hi') (by rfl) ?_;rw [ZAQ (by omega)];exact again _ _ ⟨i+1,rfl,by omega,rfl⟩ (by dsimp only; omega)
def ZCx (t:ZAr):Prop:=I64 t.ID/\I64 t.Bond/\I64 t.Buyer/\I64 t.Seller/\I64 t.Price/\I64 t.Qty/\I64 t.Ask/\I64 t.Tick
def ZCl (p:Option Addr) (xs:List ZAr) (c:Hp):Prop:=∃ (b:Nat) (sl:Sl) (v:Int) (d:Hp),p=some ⟨b,0,none⟩/\On c [ob b [sv sl,Value.int .u64 v] 181,d]/\Own Z4 d sl xs
def ZLZ (xs:List ZAr) (t:ZAr):ZAr:={t with ID:=((xs.length+1:Nat):Int)}
theorem ZCl.close {b:Nat} {sl:Sl} {v:Int} {d h:Hp} {l:List Hp} {xs:List ZAr} (o:On h (ob b [sv sl,Value.int .u64 v] 181::d::l)) (w:Own Z4 d sl xs):∃ c,On h (c::l)/\ZCl (some ⟨b,0,none⟩) xs c:=by obtain ⟨o6,o7⟩:=On.joined (cs:=[ob b [sv sl,Value.int .u64 v] 181,d]) (l:=l) o;exact ⟨_,o6,b,sl,v,d,rfl,o7,w⟩
section
variable {p:Option Addr} {xs:List ZAr} {c h:Hp} {l:List Hp}
theorem ZWP (o:On h l) {Q:Option Addr->Hp->Prop} (hq:∀ p c h',On h' (c::l)->ZCl p [] c->Q p h'):ZA TP 40 [] cP h Q:=by refine c40 ?_;unfold F40;refine ZH o λk1 h1 o1=>?_;obtain ⟨c,o2,w⟩:=ZCl.close (sl:=⟨none,0,0⟩) (v:=0) (xs:=[]) o1.emp.swap (Own.nil _);exact hq _ c h1 o2 w
theorem ZT7 (o:On h (c::l)) (w:ZCl p xs c) (hl:xs.length<=1000000) {Q:Sl->Hp->Prop} (hq:∀ s c' d h',On h' (c'::d::l)->ZCl p xs c'->Own Z4 d s xs->Q s h'):ZA TP 44 [Value.pointer p] cSl h Q:=by obtain ⟨b,sl,v,d,rfl,oc,wd⟩:=w;refine c44 ?_;unfold F44;refine ZT rfl ?_;have o1:=o.split oc;dsimp only [ZR];refine ZI (x:=sl) o1 0 rfl rfl ?_;refine ZTS o1 (g:=d) (by simp) wd.row hl λs d2 h2 o2 w2=>?_;have o3:On h2 (ob b [sv sl,Value.int .u64 v] 181::d::d2::l):=o2.perm ((List.Perm.swap _ _ _).trans ((List.Perm.swap _ _ _).cons _));obtain ⟨c2,o4,w4⟩:=ZCl.close o3 wd;exact hq s c2 d2 h2 o4 w4 w2
theorem ZSY {t:ZAr} (o:On h l) (ht:ZCx t) {Q:Sl->Hp->Prop} (hq:∀ s d h' bs,On h' (d::l)->Own (cI .u8) d s bs->bs.length<=1000000->Q s h'):ZA TP 340 [Z4.enc t] cSl h Q:=by
 refine c340 ?_;unfold F340;refine ZH o λk1 h1 o1=>?_;have hn:∀ n∈[t.ID,t.Bond,t.Buyer,t.Seller,t.Price,t.Qty,t.Ask,t.Tick],I64 n:=by obtain ⟨h1,h2,h3,h4,h5,h6,h7,h8⟩:=ht;intro n hn;simp only [List.mem_cons,List.not_mem_nil,or_false] at hn;rcases hn with rfl|rfl|rfl|rfl|rfl|rfl|rfl|rfl<;>assumption
 refine ZTJ (p0:=⟨some ⟨k1,0,none⟩,8,8⟩) (ns:=[t.ID,t.Bond,t.Buyer,t.Seller,t.Price,t.Qty,t.Ask,t.Tick]) o1 (List.mem_cons_self) (Ze (by rfl) rfl) hn (by simp) λs d h2 o2 w2=>?_;refine hq s d h2 _ (o2.sublist (List.Sublist.cons_cons _ (List.sublist_cons_self _ _))) w2 ?_;have:=ZFI _ hn;simp only [List.length_cons,List.length_nil] at this;omega
theorem ZX5 {t:ZAr} (o:On h (c::l)) (w:ZCl p xs c) (hl:xs.length<=1000000) (ht:ZCx t) {Q:ZAr->Hp->Prop} (hq:∀ c' h',On h' (c'::l)->ZCl p (xs++[ZLZ xs t]) c'->Q (ZLZ xs t) h'):
 ZA TP 294 [Value.pointer p,Z4.enc t] Z4 h Q:=by
 obtain ⟨b,sl,v,d,rfl,oc,wd⟩:=w;refine c294 ?_;unfold F294;refine ZT rfl ?_;have o1:=o.split oc;have hlen:=wd.1;dsimp only [ZR];refine ZI (x:=sl) o1 0 rfl rfl ?_;refine ZI (x:=sl) o1 0 rfl rfl ?_;have e1:IntKind.i64.wrap ((sl.len:Int)+1)=((xs.length+1:Nat):Int):=by rw [hlen]; exact ZAQ (by omega)
 rw [e1];refine ZH o1 λk2 h2 o2=>?_;refine ZU (cd:=Z4) (g:=ob k2 (Z4.enc (ZLZ xs t)).cells.toList 64) (s:=sl) (t:=⟨some ⟨k2,0,none⟩,1,1⟩) (ys:=[ZLZ xs t]) (o2.rot3) rfl wd (by decide) (Ze (by rfl) rfl) (o2.get (i:=0) rfl) ?_ λd3 p3 n m h3 o3 w3=>?_
 .rw [List.length_singleton];exact Nat.le_trans (Nat.mul_le_mul_right _ (show _<=1000001 by omega)) (by decide)
 .refine ZZ (cd:=cSl) (i:=0) (x:=⟨p3,n,m⟩) (vs':=[sv ⟨p3,n,m⟩,Value.int .u64 v]) (o3.rot3) rfl rfl (by show 1<=2; omega) λh4 o4=>?_;refine ZI (cd:=cI .u64) (x:=v) o4 0 (i:=1) rfl rfl ?_;have ht':ZCx (ZLZ xs t):=⟨by unfold ZLZ I64; dsimp only; omega,ht.2⟩
  refine ZSY (t:=ZLZ xs t) o4 ht' λs5 d5 h5 bs o5 w5 hbs=>?_;refine ⟨⟨Hp.sub_rds (o5.get (i:=1) rfl) (ZCS (i:=1) rfl),trivial⟩,?_⟩;refine ZQW w5.row (o5.mem (by simp)) hbs λv6=>?_;refine ZZ (cd:=cI .u64) (i:=1) (x:=v6) (vs':=[sv ⟨p3,n,m⟩,Value.int .u64 v6]) o5.swap rfl rfl (by show 1+1<=2; omega) λh7 o7=>?_;have o8:On h7 (ob b [sv ⟨p3,n,m⟩,Value.int .u64 v6] 181::d3::l):=o7.sublist (List.Sublist.cons_cons _ ((List.Sublist.cons_cons _ (List.sublist_cons_self _ _)).trans (List.sublist_cons_self _ _)));obtain ⟨c9,o9,w9⟩:=ZCl.close o8 w3;exact hq c9 h7 o9 w9
end
def ZYe (t:ZAr) (s who other:Int):Out:=⟨who,28,t.ID,s,t.Bond,t.Price,t.Qty,other⟩
def ZFf (t:ZAr):List Out:=[ZYe t 1 t.Buyer t.Seller,ZYe t 2 t.Seller t.Buyer]
theorem ZW0 {t:ZAr} {h:Hp} {l:List Hp} (o:On h l) {Q:Sl->Hp->Prop} (hq:∀ s d h',On h' (d::l)->Own ZCJ d s (ZFf t)->Q s h'):ZA TP 293 [Z4.enc t] cSl h Q:=by refine c293 ?_;unfold F293;refine c338 (Q:=λ(x1:ZCJ.T) h1=>_) ?_;unfold F338;refine c338 (Q:=λ(x1:ZCJ.T) h1=>_) ?_;unfold F338;refine ZH o λk1 h1 o1=>?_;exact hq ⟨some ⟨k1,0,none⟩,2,2⟩ _ h1 o1 (ZBN (rest:=[]) rfl rfl (by simp [ZFf]))
theorem ZWr {n m:Int} {h:Hp} {l:List Hp} (o:On h l) (hn:1≤n∧n≤8) (hm:1≤m∧m≤4) {Q:Option Addr→Hp→Prop} (hq:∀ p c h',On h' (c::l)→ZJE p c→Q p h'):ZA TP 39 [Value.int .i64 n,Value.int .i64 m] cP h Q:=by
 refine c39 ?_;unfold F39;refine ZN (λt h'=>t=false/\h'=h) ?_ λJ hJ=>?_
 .rintro t h' ⟨rfl,rfl⟩;refine ZT rfl ?_;refine ⟨by omega,by omega,by omega,by omega,?_⟩;refine ZH o λk1 h1 o1=>?_;refine ZH o1 λk2 h2 o2=>?_;refine Zb (λz h'=>∃ (i:Nat) (s1:Sl) (d1:Hp) (rows:List Sl) (ds:List Hp),z=(i:Int)/\(i:Int)<=n/\rows.length=i/\On h' (d1::ob k2 [sv s1,sv ⟨some ⟨k1,0,none⟩,n.toNat,n.toNat⟩] 179::ob k1 (Z3 n.toNat [Value.int .i64 0]) 2::(ds++l))/\Own cSl d1 s1 rows/\ZC1 (ZP8 m.toNat) rows ds) (λz=>n.toNat-z.toNat)
   ⟨0,⟨none,0,0⟩,Hp.emp,[],[],rfl,by omega,rfl,o2.emp,Own.nil _,trivial⟩ ?_
  rintro J z h3 again ⟨i,s1,d1,rows,ds,rfl,hi,hr,o3,w3,wa⟩
  refine ZJ (λhlt=>?_) λhge=>?_
  .refine ZI (x:=s1) o3 1 (i:=0) rfl rfl ?_;refine ⟨by omega,by omega,by omega,by omega,?_⟩;refine ZH o3 λk4 h4 o4=>?_;refine ZH o4 λk5 h5 o5=>?_;have o5':On h5 (d1::ob k5 [sv ⟨some ⟨k4,0,none⟩,m.toNat,m.toNat⟩] 76::ob k4 (Z3 m.toNat [Value.int .i64 0]) 2::ob k2 [sv s1,sv ⟨some ⟨k1,0,none⟩,n.toNat,n.toNat⟩] 179::ob k1 (Z3 n.toNat [Value.int .i64 0]) 2::(ds++l)):=o5.rot3;refine ZU (cd:=cSl) (g:=ob k5 [sv ⟨some ⟨k4,0,none⟩,m.toNat,m.toNat⟩] 76) (s:=s1) (t:=⟨some ⟨k5,0,none⟩,1,1⟩) (ys:=[(⟨some ⟨k4,0,none⟩,m.toNat,m.toNat⟩:Sl)]) o5' rfl w3 (by decide) (Ze (by rfl) rfl) (o5'.get (i:=1) rfl) ?_ λd6 p6 n6 m6 h6 o6 w6=>?_
   .rw [List.length_singleton];exact Nat.le_trans (Nat.mul_le_mul_right _ (show _<=1001 by omega)) (by decide)
   .have o7:=o6.pull 3 rfl;refine ZZ (cd:=cSl) (i:=0) (x:=⟨p6,n6,m6⟩) (vs':=[sv ⟨p6,n6,m6⟩,sv ⟨some ⟨k1,0,none⟩,n.toNat,n.toNat⟩]) o7 rfl rfl (by show 1<=2; omega) λh8 o8=>?_;rw [ZAQ (by omega)];refine again _ _ ⟨i+1,⟨p6,n6,m6⟩,d6,rows++[(⟨some ⟨k4,0,none⟩,m.toNat,m.toNat⟩:Sl)],ds++[ob k4 (Z3 m.toNat [Value.int .i64 0]) 2],rfl,by omega,by simp [hr],?_,w6,ZC1.app wa ⟨⟨_,ZHK,by simp⟩,trivial⟩⟩ (by omega);have o9:On h8 (ob k2 [sv ⟨p6,n6,m6⟩,sv ⟨some ⟨k1,0,none⟩,n.toNat,n.toNat⟩] 179::d6::ob k4 (Z3 m.toNat [Value.int .i64 0]) 2::ob k1 (Z3 n.toNat [Value.int .i64 0]) 2::(ds++l)):=o8.sublist (List.Sublist.cons_cons _ (List.Sublist.cons_cons _ (List.sublist_cons_self _ _)));refine o9.perm ((List.Perm.swap _ _ _).trans ((List.Perm.cons _ (List.Perm.cons _ ?_))));refine (List.Perm.swap _ _ _).trans (List.Perm.cons _ ?_);rw [List.append_assoc];exact (List.perm_middle (l₁:=ds) (a:=ob k4 (Z3 m.toNat [Value.int .i64 0]) 2) (l₂:=l)).symm
  .have hie:(i:Int)=n:=by omega
   have o4:On h3 ((ds++[ob k2 [sv s1,sv ⟨some ⟨k1,0,none⟩,n.toNat,n.toNat⟩] 179,d1,ob k1 (Z3 n.toNat [Value.int .i64 0]) 2])++l):=by refine o3.perm ?_;rw [List.append_assoc];refine (List.Perm.swap _ _ _).trans ?_;exact List.perm_append_comm_assoc [ob k2 [sv s1,sv ⟨some ⟨k1,0,none⟩,n.toNat,n.toNat⟩] 179,d1,ob k1 (Z3 n.toNat [Value.int .i64 0]) 2] ds l
   obtain ⟨o7,o8⟩:=On.joined o4;refine hq _ _ h3 o7 ⟨k2,s1,⟨some ⟨k1,0,none⟩,n.toNat,n.toNat⟩,d1,_,rows,_,ds,m.toNat,rfl,o8,w3,ZHK,by rw [List.length_replicate]; omega,wa⟩
 .exact ZT (decide_eq_false (by omega)) (ZT (decide_eq_false (by omega)) (ZT (decide_eq_false (by omega)) (hJ _ _ ⟨decide_eq_false (by omega),rfl⟩)))
def ZCC (acc:List ZFC) (x:ZE):List ZFC:=
 match acc.getLast? with
 | some v=>if v.Price=x.Price then acc.set (acc.length-1) ⟨v.Price,v.Qty+x.Left⟩ else acc++[⟨x.Price,x.Left⟩]
 | none=>acc++[⟨x.Price,x.Left⟩]
def ZDG (l:List ZE) (s:Int):List ZFC:=(ZBB l s).foldl ZCC []
def ZQv (ls:List ZFC):Int:=(ls.map ZFC.Qty).sum
def ZBF (st:Int×Int) (v:ZFC):Int×Int:=(st.1-min st.1 v.Qty,st.2+v.Price*min st.1 v.Qty)
def ZGZ (l:List ZE) (s qty:Int):Int×Bool:=if qty<1\/ZQv (ZDG l s)<qty then (0,false) else (((ZDG l s).foldl ZBF (qty,0)).2,true)
def ZSm (l:List ZE) (s price qty:Int):Int:=
 if ZBZ s=false\/price<1\/qty<1 then 1
 else if (ZGZ l (ZBg s) qty).2=false then 0
 else if (s=1/\(ZGZ l (ZBg s) qty).1<price*qty)\/(s=2/\(ZGZ l (ZBg s) qty).1>price*qty) then 13 else 0
def ZJ2 (n:Int) (ls:List ZFC):Prop:=∀ v∈ls,1<=v.Price/\v.Price<=1000000/\0<=v.Qty/\v.Qty<=n*1000000
theorem ZPP {n:Int} {ls:List ZFC} {x:ZE} (h:ZJ2 n ls) (hn:0≤n) (h1:1≤x.Left∧x.Left≤1000000) (h2:1≤x.Price∧x.Price≤1000000):ZJ2 (n+1) (ZCC ls x):=by
 have h0:ZJ2 (n+1) ls:=λv hv=>by have:=h v hv; omega
 have ha:ZJ2 (n+1) (ls++[⟨x.Price,x.Left⟩]):=by
  intro v hv;rcases List.mem_append.1 hv with hv|hv
  .exact h0 v hv
  .simp only [List.mem_singleton] at hv;subst hv;dsimp only;omega
 unfold ZCC;cases hl:ls.getLast? with
 | none=>exact ha
 | some v=>
   dsimp only;split
   .have hv:=h v (List.mem_of_getLast? hl);intro u hu;rcases List.mem_or_eq_of_mem_set hu with hu|hu
    .exact h0 u hu
    .subst hu;dsimp only;omega
   .exact ha
theorem ZMi (ls:List ZFC) (x:ZE):(ZCC ls x).length<=ls.length+1:=by
 unfold ZCC;split
 .split<;>simp
 .simp
section
variable {p:Option Addr} {xs:List ZE} {c h:Hp} {l:List Hp}
theorem ZKQ {s:Int} (o:On h (c::l)) (w:Zk p xs c) (hs:ZDR xs) (hsm:ZFe xs) (hl:xs.length≤1000) {Q:Sl→Hp→Prop}
 (hq:∀ sl c' d' h',On h' (c'::d'::l)->Zk p xs c'->Own ZCK d' sl (ZDG xs s)->ZJ2 1000 (ZDG xs s)->(ZDG xs s).length<=1000->Q sl h'):ZA TP 362 [Value.pointer p,Value.int .i64 s] cSl h Q:=by
 refine c362 ?_;unfold F362;refine ZFl o w hs hl λs1 c1 d1 h1 o1 w1 wd=>?_;have hsl:=ZCm xs s;have hmem:∀ x∈ZBB xs s,x∈xs:=λx hx=>(ZA0.1 hx).1;unfold ZDG at hq;generalize ZBB xs s=ys at*;have hlen:=wd.1;refine Zb (λz h'=>∃ (i:Nat) (dO:Hp),z.2=(i:Int)/\i<=ys.length/\On h' (dO::c1::d1::l)/\Own ZCK dO z.1 ((ys.take i).foldl ZCC [])/\ZJ2 i ((ys.take i).foldl ZCC [])/\((ys.take i).foldl ZCC []).length<=i) (λz=>ys.length-z.2.toNat)
  ⟨0,Hp.emp,rfl,Nat.zero_le _,o1.emp,Own.nil _,(show ZJ2 _ _ by intro v hv; simp at hv),Nat.zero_le _⟩ ?_
 rintro J ⟨z,zi⟩ h2 again ⟨i,dO,hzi,hle,o2,w2,hk,hkl⟩
 dsimp only at hzi w2;subst hzi;dsimp only;refine ZJ (λhlt=>?_) λhge=>?_
 ·have hi:i<ys.length:=by omega
  have a0:ys[i]?=some ys[i]:=List.getElem?_eq_getElem hi;have hx:=hsm _ (hmem _ (List.getElem_mem hi));have est:=Z7 ZCC [] ys a0;generalize ys[i]=x at a0 hx est;have hk1:=ZPP hk (by omega) ⟨hx.1,hx.2.1⟩ hx.2.2;have hkl1:=ZMi ((ys.take i).foldl ZCC []) x;rw [<-est] at hk1 hkl1;rw [ZAQ (by omega)];refine ZN (λz h'=>∃ dO,On h' (dO::c1::d1::l)/\Own ZCK dO z ((ys.take (i+1)).foldl ZCC [])) ?_ λJ2 hJ2=>?_
  .rintro z3 h3 ⟨d3,o3,w3⟩;exact again _ _ ⟨i+1,d3,rfl,by omega,o3,w3,hk1,by omega⟩ (by dsimp only; omega)
  ·rw [est] at hJ2;generalize hacc:(ys.take i).foldl ZCC []=acc at*;unfold ZCC at hJ2;have hla:=w2.1;refine ZL wd.row (Int.natCast_nonneg i) (by omega) fun a ha=>ZO wd.row (o2.mem (by simp)) rfl ha (i:=i) a0 (by rfl) ?_;by_cases h0:0<acc.length
   ·have hlast:acc.getLast?=some acc[acc.length-1]:=by rw [List.getLast?_eq_getElem?,List.getElem?_eq_getElem (by omega)]
    rw [hlast] at hJ2;dsimp only at hJ2;have hv:=hk acc[acc.length-1] (List.getElem_mem (by omega));have av:acc[acc.length-1]?=some acc[acc.length-1]:=List.getElem?_eq_getElem (by omega);generalize acc[acc.length-1]=v at hJ2 hv av;have el:IntKind.i64.wrap ((z.len:Int)-1)=((acc.length-1:Nat):Int):=by rw [w64 (by omega) (by omega)]; omega
    rw [el];refine ZN (λt h'=>h'=h2/\t=(v.Price==x.Price)) ?_ λJ3 hJ3=>?_
    .rintro t h' ⟨rfl,rfl⟩;refine ZD (λe=>?_) λe=>?_
     .rw [if_pos (by simpa using e)] at hJ2;refine ZL w2.row (Int.natCast_nonneg _) (by omega) λa ha=>?_;rw [w2.part_at ha];refine Zg (cd:=ZCK) (cf:=cI .i64) w2.row (o2.mem (by simp)) rfl ha (i:=acc.length-1) av rfl (k:=1) (y:=v.Qty) rfl ?_;rw [w64 (by omega) (by omega)];refine ZL w2.row (Int.natCast_nonneg _) (by omega) λa ha=>?_;rw [w2.part_at ha];refine ZAC (cd:=ZCK) (cf:=cI .i64) o2 rfl rfl w2 ha (i:=acc.length-1) (x0:=v) av rfl (k:=1) (y:=v.Qty+x.Left) (x':=⟨v.Price,v.Qty+x.Left⟩) rfl (by decide) λc4 h4 o4 w4=>?_;exact hJ2 _ h4 ⟨c4,o4,w4⟩
     .rw [if_neg (by simpa using e)] at hJ2;refine ZH o2 λk4 h4 o4=>?_;refine ZU (cd:=ZCK) (g:=ob k4 (ZCK.enc ⟨x.Price,x.Left⟩).cells.toList 441) (s:=z) (t:=⟨some ⟨k4,0,none⟩,1,1⟩) (ys:=[(⟨x.Price,x.Left⟩:ZFC)]) o4.swap rfl w2 (by decide) (Ze (by rfl) rfl) (o4.get (i:=0) rfl) ?_ λd5 p n m h5 o5 w5=>?_
      .rw [List.length_singleton];exact Nat.le_trans (Nat.mul_le_mul_right _ (show _<=1001 by omega)) (by decide)
      .exact hJ2 ⟨p,n,m⟩ h5 ⟨d5,o5.sublist (List.Sublist.cons_cons _ (List.sublist_cons_self _ _)),w5⟩
    .refine Zh (decide_eq_true (by show (z.len:Int)>0; omega)) ?_;refine ZL w2.row (Int.natCast_nonneg _) (by omega) λa ha=>?_;refine Zg (cd:=ZCK) (cf:=cI .i64) w2.row (o2.mem (by simp)) rfl ha (i:=acc.length-1) av rfl (k:=0) (y:=v.Price) rfl ?_;exact hJ3 _ _ ⟨rfl,rfl⟩
   .have hnil:acc=[]:=List.length_eq_zero_iff.1 (by omega);subst hnil;refine ZN (λt h'=>h'=h2/\t=false) ?_ λJ3 hJ3=>?_
    .rintro t h' ⟨rfl,rfl⟩;refine ZT rfl ?_;refine ZH o2 λk4 h4 o4=>?_;refine ZU (cd:=ZCK) (g:=ob k4 (ZCK.enc ⟨x.Price,x.Left⟩).cells.toList 441) (s:=z) (t:=⟨some ⟨k4,0,none⟩,1,1⟩) (ys:=[(⟨x.Price,x.Left⟩:ZFC)]) o4.swap rfl w2 (by decide) (Ze (by rfl) rfl) (o4.get (i:=0) rfl) (by show (0+1)*16<=ZAR; unfold ZAR; omega) λd5 p n m h5 o5 w5=>?_;exact hJ2 ⟨p,n,m⟩ h5 ⟨d5,o5.sublist (List.Sublist.cons_cons _ (List.sublist_cons_self _ _)),w5⟩
    .exact ZT (decide_eq_false (by show ¬(z.len:Int)>0; rw [hla]; simp)) (hJ3 _ _ ⟨rfl,rfl⟩)
 .have hie:i=ys.length:=by omega
  subst hie;rw [List.take_length] at w2 hk hkl;refine hq z c1 dO h2 (o2.rot3.tail.perm (List.Perm.swap _ _ _)) w1 w2 (λv hv=>by have:=hk v hv; omega) (by omega)
theorem ZWU {ls:List ZFC} {n:Int} (hk:ZJ2 n ls) (hn:0≤n):∀ i,0≤ZQv (ls.take i)∧ZQv (ls.take i)≤(i:Int)*(n*1000000):=by
 intro i;induction i with
 | zero=>simp [ZQv]
 | succ i ih=>
   rw [List.take_add_one];unfold ZQv at*;have hm:((i+1:Nat):Int)*(n*1000000)=(i:Int)*(n*1000000)+n*1000000:=by rw [Int.natCast_add,Int.add_mul]; simp
   rw [hm];cases hy:ls[i]? with
   | none=>
     simp only [Option.toList_none,List.append_nil];have:=Int.mul_nonneg hn (show (0:Int)<=1000000 by decide);omega
   | some v=>
     have:=hk v (List.mem_of_getElem? hy);simp only [Option.toList_some,List.map_append,List.map_cons,List.map_nil,List.sum_append,List.sum_cons,List.sum_nil];omega
theorem ZZd {s:Int} (o:On h (c::l)) (w:Zk p xs c) (hs:ZDR xs) (hsm:ZFe xs) (hl:xs.length<=1000) {Q:Int->Hp->Prop} (hq:∀ c' h',On h' (c'::l)->Zk p xs c'->Q (ZQv (ZDG xs s)) h'):ZA TP 361 [Value.pointer p,Value.int .i64 s] (cI .i64) h Q:=by
 refine c361 ?_;unfold F361;refine ZKQ o w hs hsm hl λs1 c1 d1 h1 o1 w1 wd hk hkl=>?_;generalize ZDG xs s=ls at*;have hlen:=wd.1;have hsum:=ZWU hk (by decide);refine Zb (λz h'=>∃ i:Nat,z=(ZQv (ls.take i),(i:Int))/\i<=ls.length/\h'=h1) (λz=>ls.length-z.2.toNat) ⟨0,rfl,Nat.zero_le _,rfl⟩ ?_;rintro J z h' again ⟨i,rfl,hi,rfl⟩
 dsimp only;refine ZJ (λhlt=>?_) λhge=>?_
 .have hi':i<ls.length:=by omega
  have a0:ls[i]?=some ls[i]:=List.getElem?_eq_getElem hi';refine ZL wd.row (Int.natCast_nonneg i) (by omega) λa ha=>ZO wd.row (o1.mem (by simp)) rfl ha (i:=i) a0 (by rfl) ?_;have est:ZQv (ls.take i)+ls[i].Qty=ZQv (ls.take (i+1)):=by rw [List.take_add_one,a0];simp only [ZQv,Option.toList_some,List.map_append,List.map_cons,List.map_nil,List.sum_append,List.sum_cons,List.sum_nil,Int.add_zero]
  have h2:=hsum (i+1);have h3:((i+1:Nat):Int)<=1000:=by omega
  have h4:((i+1:Nat):Int)*(1000*1000000)<=1000*(1000*1000000):=Int.mul_le_mul_of_nonneg_right h3 (by decide);rw [est,w64 (by omega) (by omega),ZAQ (by omega)];exact again _ _ ⟨i+1,rfl,by omega,rfl⟩ (by dsimp only; omega)
 .have hie:i=ls.length:=by omega
  subst hie;rw [List.take_length];exact hq c1 h' (o1.sublist (List.Sublist.cons_cons _ (List.sublist_cons_self _ _))) w1
theorem ZUb {s qty:Int} (o:On h (c::l)) (w:Zk p xs c) (hs:ZDR xs) (hsm:ZFe xs) (hl:xs.length≤1000) (hqt:qty≤1000000) {Q:ZFU×Bool→Hp→Prop}
 (hq:∀ c' h',On h' (c'::l)->Zk p xs c'->0<=(ZGZ xs s qty).1->Q (⟨0,(ZGZ xs s qty).1⟩,(ZGZ xs s qty).2) h'):ZA TP 331 [Value.pointer p,Value.int .i64 s,Value.int .i64 qty] (ZW [ZAl,cB]) h Q:=by
 refine c331 ?_;unfold F331;unfold ZGZ at hq;refine ZN (λt h'=>∃ c',On h' (c'::l)/\Zk p xs c'/\t=decide (qty<1\/ZQv (ZDG xs s)<qty)) ?_ λJ hJ=>?_
 ·rintro t h' ⟨c1,o1,w1,rfl⟩;refine ZJ (fun hc=>?_) fun hc=>?_
  .rw [if_pos hc] at hq;exact hq c1 h' o1 w1 (Int.le_refl 0)
  .rw [if_neg hc] at hq;refine ZKQ o1 w1 hs hsm hl λs2 c2 d2 h2 o2 w2 wd hk hkl=>?_;generalize ZDG xs s=ls at*;have hlen:=wd.1;refine Zb (λz h'=>∃ i:Nat,z=(((ls.take i).foldl ZBF (qty,0)).1,(⟨0,((ls.take i).foldl ZBF (qty,0)).2⟩:ZFU),(i:Int))/\i<=ls.length/\h'=h2/\0<=((ls.take i).foldl ZBF (qty,0)).1/\((ls.take i).foldl ZBF (qty,0)).1<=1000000/\0<=((ls.take i).foldl ZBF (qty,0)).2/\((ls.take i).foldl ZBF (qty,0)).2<=(i:Int)*1000000000000) (λz=>ls.length-z.2.2.toNat)
    ⟨0,rfl,Nat.zero_le _,rfl,by show 0<=qty; omega,hqt,Int.le_refl 0,by show (0:Int)<=_; omega⟩ ?_
   rintro J z h' again ⟨i,rfl,hi,rfl,b1,b2,b3,b4⟩
   dsimp only;refine ZJ (λhlt=>?_) λhge=>?_
   .have hi':i<ls.length:=by omega
    have a0:ls[i]?=some ls[i]:=List.getElem?_eq_getElem hi';have est:=Z7 ZBF (qty,0) ls a0;have hv:=hk ls[i] (List.getElem_mem hi');generalize ls[i]=v at a0 est hv;generalize (ls.take i).foldl ZBF (qty,0)=st at*;have hm0:0<=min st.1 v.Qty:=by omega
    have hm1:min st.1 v.Qty<=1000000:=by omega
    have hp0:0<=v.Price*min st.1 v.Qty:=Int.mul_nonneg (by omega) hm0;have hp1:v.Price*min st.1 v.Qty<=1000000*1000000:=Int.mul_le_mul hv.2.1 hm1 hm0 (by decide);have hi6:(i:Int)*1000000000000<=1000*1000000000000:=Int.mul_le_mul_of_nonneg_right (by omega) (by decide);have e1:((ls.take (i+1)).foldl ZBF (qty,0)).1=st.1-min st.1 v.Qty:=by rw [est]; rfl
    have e2:((ls.take (i+1)).foldl ZBF (qty,0)).2=st.2+v.Price*min st.1 v.Qty:=by rw [est]; rfl
    refine ZL wd.row (Int.natCast_nonneg i) (by omega) λa ha=>ZO wd.row (o2.mem (by simp)) rfl ha (i:=i) a0 (by rfl) ?_;rw [ZSr];refine ZJF ⟨by omega,by omega⟩ ⟨hm0,by omega⟩ ?_;refine ZXb (a:=st.2) (b:=v.Price*min st.1 v.Qty) ⟨b3,by omega⟩ ⟨hp0,by omega⟩ ?_;rw [w64 (by omega) (by omega),ZAQ (by omega)];refine again _ _ ⟨i+1,by rw [e1,e2],by omega,rfl,by rw [e1]; omega,by rw [e1]; omega,by rw [e2]; omega,?_⟩ (by dsimp only; omega);rw [e2,Int.natCast_add,Int.add_mul];omega
   .have hie:i=ls.length:=by omega
    subst hie;rw [List.take_length] at b3 ⊢;exact hq c2 h' (o2.sublist (List.Sublist.cons_cons _ (List.sublist_cons_self _ _))) w2 b3
 .refine ZJ (λh1=>hJ _ _ ⟨c,o,w,(decide_eq_true (.inl h1)).symm⟩) λh1=>?_;refine ZZd o w hs hsm hl λc1 h1' o1 w1=>hJ _ _ ⟨c1,o1,w1,?_⟩;exact decide_eq_decide.2 (by omega)
theorem ZWG {s price qty:Int} (o:On h (c::l)) (w:Zk p xs c) (hs:ZDR xs) (hsm:ZFe xs) (hl:xs.length≤1000) (hpr:price≤1000000) (hqt:qty≤1000000) {Q:Int→Hp→Prop}
 (hq:∀ c' h',On h' (c'::l)->Zk p xs c'->Q (ZSm xs s price qty) h'):ZA TP 290 [Value.pointer p,Value.int .i64 s,Value.int .i64 price,Value.int .i64 qty] (cI .i64) h Q:=by
 refine c290 ?_;unfold F290;unfold ZSm at hq;refine ZN (λt h'=>h'=h/\t=decide (ZBZ s=false\/price<1\/qty<1)) ?_ λJ hJ=>?_
 ·rintro t h' ⟨rfl,rfl⟩;refine ZJ (fun hc=>?_) fun hc=>?_
  .rw [if_pos hc] at hq;exact hq c h' o w
  ·rw [if_neg hc] at hq;refine ZJO (ZUb o w hs hsm hl hqt fun c1 h1 o1 w1 h0=>?_);generalize ZGZ xs (ZBg s) qty=sw at*;refine ZD (fun e=>?_) fun e=>?_
   .rw [if_pos (by simpa using e)] at hq;exact hq c1 h1 o1 w1
   ·rw [if_neg (by simpa using e)] at hq;refine ZJF ⟨by omega,by omega⟩ ⟨by omega,by omega⟩ ?_;refine ZRT (a:=sw.1) (b:=price*qty) o1 fun h2 o2=>?_;have hn:(ZDW sw.1 (price*qty)<0)=(sw.1<price*qty):=propext ZGt;have hp:(ZDW sw.1 (price*qty)>0)=(sw.1>price*qty):=by
     unfold ZDW;apply propext;split
     .omega
     .split<;>omega
    refine ZN (λt h'=>h'=h2/\t=decide ((s=1/\sw.1<price*qty)\/(s=2/\sw.1>price*qty))) ?_ λJ2 hJ2=>?_
    .rintro t h' ⟨rfl,rfl⟩;refine ZJ (λhc=>?_) λhc=>?_
     .rw [if_pos hc] at hq;exact hq c1 h' o2 w1
     .rw [if_neg hc] at hq;exact hq c1 h' o2 w1
    ·simp only [hn,hp];refine ZD (fun e1=>?_) fun e1=>?_
     .have e1:s=1:=by simpa using e1
      refine ZJ (λe2=>hJ2 _ _ ⟨rfl,(decide_eq_true (.inl ⟨e1,e2⟩)).symm⟩) λe2=>?_;refine ZT (by rw [e1]; rfl) (hJ2 _ _ ⟨rfl,(decide_eq_false ?_).symm⟩);omega
     .have e1:¬s=1:=by simpa using e1
      refine ZD (λe2=>hJ2 _ _ ⟨rfl,decide_eq_decide.2 ?_⟩) λe2=>hJ2 _ _ ⟨rfl,(decide_eq_false ?_).symm⟩
      .have e2:s=2:=by simpa using e2
       exact ⟨λh=>.inr ⟨e2,h⟩,λh=>h.elim (λh=>absurd h.1 e1) λh=>h.2⟩
      .have e2:¬s=2:=by simpa using e2
       exact λh=>h.elim (λh=>e1 h.1) λh=>e2 h.1
 ·refine ZDF (ZD (fun e=>hJ _ _ ⟨rfl,?_⟩) fun e=>?_)
  .rw [Bool.eq_iff_iff]; simp_all
  .refine ZJ (λh1=>hJ _ _ ⟨rfl,?_⟩) λh1=>hJ _ _ ⟨rfl,?_⟩
   .rw [Bool.eq_iff_iff]; simp_all
   .have e:ZBZ s=true:=by simpa using e
    exact decide_eq_decide.2 (by rw [e]; simp; omega)
end
def ZQN (s:Int) (a b:Za):Bool:=if a.Price=b.Price then decide (a.ID<b.ID) else ZAD (ZBg s) a.Price b.Price
def ZKe (s:Int) (b q:Za):Za:=if ZQN s q b=true then q else b
def ZLa (s:Int) (l:List Za):Za×Bool:=match l with
 | []=>(ZM0,false)
 | q::t=>if ZBZ s=false then (ZM0,false) else ((q::t).foldl (ZKe s) q,true)
theorem ZUV {s:Int} {a b:Za} {h:Hp} {Q:Bool->Hp->Prop} (hq:Q (ZQN s a b) h):ZA TP 288 [Value.int .i64 s,ZS.enc a,ZS.enc b] cB h Q:=by
 refine c288 ?_;unfold F288;unfold ZQN at hq;refine ZD (λe=>?_) λe=>?_
 .rwa [if_pos (by simpa using e)] at hq
 .rw [if_neg (by simpa using e)] at hq;exact ZJO (ZKk hq)
theorem ZXC {s:Int} {sl:Sl} {g h:Hp} {qs:List Za} (r:Row ZS g sl qs) (hg:g.sub h) (hl:qs.length≤1000000) {Q:Za×Bool→Hp→Prop} (hq:Q (ZLa s qs) h):
 ZA TP 213 [Value.int .i64 s,Value.slice sl.a sl.len sl.cap] (ZW [ZS,cB]) h Q:=by
 refine c213 ?_;unfold F213;have hlen:=r.1;cases qs with
 | nil=>
   refine ZN (λt h'=>t=true/\h'=h) ?_ λJ hJ=>?_
   .rintro t h' ⟨rfl,rfl⟩;exact Zh rfl hq
   .refine ZDF (ZD (λ_=>hJ _ _ ⟨rfl,rfl⟩) λ_=>hJ _ _ ⟨?_,rfl⟩);rw [hlen]; rfl
 | cons q t=>
   unfold ZLa at hq;dsimp only at hq;refine ZN (λu h'=>u=(!ZBZ s)/\h'=h) ?_ λJ hJ=>?_
   ·rintro u h' ⟨rfl,rfl⟩;refine ZD (fun e=>?_) fun e=>?_
    .rwa [if_pos (by simpa using e)] at hq
    ·rw [if_neg (by simpa using e)] at hq;generalize hqs:q::t=qs at*;have hq0:qs[0]?=some q:=by rw [←hqs]; rfl
     have hpos:0<qs.length:=by rw [<-hqs]; simp
     refine ZL r (Int.le_refl 0) (by omega) λa ha=>ZO r hg rfl ha (i:=0) hq0 (by rfl) ?_;refine Zb (λz h2=>∃ i:Nat,z=((qs.take i).foldl (ZKe s) q,(i:Int))/\i<=qs.length/\h2=h') (λz=>qs.length-z.2.toNat) ⟨0,rfl,Nat.zero_le _,rfl⟩ ?_;rintro J z h2 again ⟨i,rfl,hi,rfl⟩
     dsimp only;refine ZJ (λhlt=>?_) λhge=>?_
     .have hi':i<qs.length:=by omega
      have a0:qs[i]?=some qs[i]:=List.getElem?_eq_getElem hi';have est:=Z7 (ZKe s) q qs a0;rw [ZAQ (by omega)];refine ZN (λx h3=>x=(qs.take (i+1)).foldl (ZKe s) q/\h3=h2) ?_ λJ2 hJ2=>?_
      .rintro x h3 ⟨rfl,rfl⟩;exact again _ _ ⟨i+1,rfl,by omega,rfl⟩ (by dsimp only; omega)
      .refine ZL r (Int.natCast_nonneg i) (by omega) λa ha=>ZO r hg rfl ha (i:=i) a0 (by rfl) ?_;refine ZUV (a:=qs[i]) (b:=(qs.take i).foldl (ZKe s) q) ?_;refine ZD (λe=>hJ2 _ _ ⟨?_,rfl⟩) λe=>hJ2 _ _ ⟨?_,rfl⟩
       .rw [est]; exact (if_pos e).symm
       .rw [est]; exact (if_neg (by rw [e]; simp)).symm
     .have hie:i=qs.length:=by omega
      subst hie;rw [List.take_length];exact hq
   .refine ZDF (ZD (λe=>hJ _ _ ⟨e.symm,rfl⟩) λe=>hJ _ _ ⟨?_,rfl⟩);rw [e,hlen]; rfl
theorem ZP9 {h D:Hp} {l ZC9:List Hp} {i:Nat} {c:Hp} (o:On h (D::l)) (oc:On D ZC9) (hi:ZC9[i]?=some c):
 ∃ R,On h (c::R::l)/\On R (ZC9.eraseIdx i)/\∀ h' c' l',On h' (c'::R::l')->∃ D',On h' (D'::l')/\On D' (ZC9.set i c'):=by
 have hlt:i<ZC9.length:=(List.getElem?_eq_some_iff.1 hi).1;have o1:On h (c::(ZC9.eraseIdx i++l)):=(o.split oc).at' i hi;have o2:On h (ZC9.eraseIdx i++(c::l)):=o1.perm List.perm_middle.symm;obtain ⟨o3,o4⟩:=On.joined o2;refine ⟨_,o3.swap,o4,λh' c' l' o'=>?_⟩;have o5:On h' (ZC9.eraseIdx i++(c'::l')):=o'.swap.split o4;have o6:On h' (c'::((ZC9.set i c').eraseIdx i++l')):=by
  have e:(ZC9.set i c').eraseIdx i=ZC9.eraseIdx i:=by rw [List.eraseIdx_eq_take_drop_succ,List.eraseIdx_eq_take_drop_succ,List.take_set_of_le (Nat.le_refl _),List.drop_set_of_lt (by omega)]
  rw [e];exact o5.perm List.perm_middle
 have o7:=o6.back' (by rw [List.length_set]; exact hlt);rw [List.set_set] at o7;exact ⟨_,On.joined o7⟩
structure DS where
 bonds:List Bond
 parties:List ZAa
 look:Int
 beat:Int
 now:Int
 books:List (List ZE)
 used:List Int
 quotes:List Za
 asks:List Ask
 due:Nat
 trades:List ZAr
 order:Int
 seq:Int
 quote:Int
 ask:Int
structure DK where
 b:Nat
 sb:Sl
 sp:Sl
 sk:Sl
 pf:Option Addr
 pq:Option Addr
 pa:Option Addr
 pd:Option Addr
 pp:Option Addr
 pt:Option Addr
def DK.p (k:DK):Option Addr:=some ⟨k.b,0,none⟩
def ZAK (k:DK) (S:DS):List Value:=
 [sv k.sb,sv k.sp,Value.int .i64 S.look,Value.int .i64 S.beat,Value.int .i64 S.now,sv k.sk,Value.pointer k.pf,Value.pointer k.pq,Value.pointer k.pa,Value.pointer k.pd,Value.pointer k.pp,Value.pointer k.pt,Value.int .i64 S.order,Value.int .i64 S.seq,Value.int .i64 S.quote,Value.int .i64 S.ask]
def Books (ps:List (Option Addr)) (bs:List (List ZE)) (cs:List Hp):Prop:=
 ps.length=bs.length/\cs.length=bs.length/\∀ (i:Nat) (p:Option Addr) (b:List ZE) (c:Hp),ps[i]?=some p->bs[i]?=some b->cs[i]?=some c->Zk p b c
def Z1 (k:DK) (S:DS) (D:Hp):Prop:=
 ∃ (dB dP dK cF cQ cA cD cO cT:Hp) (ks:List (Option Addr)) (cs:List Hp),
  On D (ob k.b (ZAK k S) 121::dB::dP::dK::cF::cQ::cA::cD::cO::cT::cs)/\Own ZAB dB k.sb S.bonds/\Own Z2 dP k.sp S.parties/\Own cP dK k.sk ks/\
  ZCt k.pf S.parties S.used cF/\Zv k.pq S.quotes cQ/\ZA1 k.pa S.asks cA/\ZGf k.pd S.due cD/\ZJE k.pp cO/\ZCl k.pt S.trades cT/\Books ks S.books cs
section
variable {k:DK} {S:DS} {D h:Hp} {l:List Hp}
theorem Z1.ob (w:Z1 k S D) (hD:D.sub h):(ob k.b (ZAK k S) 121).sub h:=by obtain ⟨dB,dP,dK,cF,cQ,cA,cD,cO,cT,ks,cs,o,_⟩:=w;exact Hp.sub_trans (o.mem (by simp)) hD
theorem Z1.firm_sub (w:Z1 k S D) (hD:D.sub h):∃ cF,cF.sub h/\ZCt k.pf S.parties S.used cF:=by obtain ⟨dB,dP,dK,cF,cQ,cA,cD,cO,cT,ks,cs,o,_,_,_,w,_⟩:=w;exact ⟨cF,Hp.sub_trans (o.mem (by simp)) hD,w⟩
theorem Z1.bonds_sub (w:Z1 k S D) (hD:D.sub h):∃ dB,dB.sub h/\Own ZAB dB k.sb S.bonds:=by obtain ⟨dB,dP,dK,cF,cQ,cA,cD,cO,cT,ks,cs,o,w,_⟩:=w;exact ⟨dB,Hp.sub_trans (o.mem (by simp)) hD,w⟩
theorem Z1.parties_sub (w:Z1 k S D) (hD:D.sub h):∃ dB,dB.sub h/\Own Z2 dB k.sp S.parties:=by obtain ⟨dB,dP,dK,cF,cQ,cA,cD,cO,cT,ks,cs,o,_,w,_⟩:=w;exact ⟨dP,Hp.sub_trans (o.mem (by simp)) hD,w⟩
theorem Z1.nums (o:On h (D::l)) (w:Z1 k S D):
 ∃ R,On h (Go.Eng.ob k.b (ZAK k S) 121::R::l)/\∀ h' l' now order seq quote ask,On h' (Go.Eng.ob k.b (ZAK k {S with now:=now,order:=order,seq:=seq,quote:=quote,ask:=ask}) 121::R::l')->
  ∃ D',On h' (D'::l')/\Z1 k {S with now:=now,order:=order,seq:=seq,quote:=quote,ask:=ask} D':=by
 obtain ⟨dB,dP,dK,cF,cQ,cA,cD,cO,cT,ks,cs,oc,w⟩:=w;obtain ⟨R,o1,_,hc⟩:=ZP9 o oc (i:=0) rfl;refine ⟨R,o1,λh' l' now order seq quote ask o'=>?_⟩;obtain ⟨D',o2,o3⟩:=hc h' _ l' o';exact ⟨D',o2,dB,dP,dK,cF,cQ,cA,cD,cO,cT,ks,cs,o3,w⟩
theorem Z1.bonds (o:On h (D::l)) (w:Z1 k S D):
 ∃ c R,On h (c::R::l)/\Own ZAB c k.sb S.bonds/\∀ h' c' l' x,On h' (c'::R::l')->Own ZAB c' k.sb x->∃ D',On h' (D'::l')/\Z1 k {S with bonds:=x} D':=by
 obtain ⟨dB,dP,dK,cF,cQ,cA,cD,cO,cT,ks,cs,oc,wB,w⟩:=w;obtain ⟨R,o1,_,hc⟩:=ZP9 o oc (i:=1) rfl;refine ⟨dB,R,o1,wB,λh' c' l' x o' w'=>?_⟩;obtain ⟨D',o2,o3⟩:=hc h' _ l' o';exact ⟨D',o2,c',dP,dK,cF,cQ,cA,cD,cO,cT,ks,cs,o3,w',w⟩
theorem Z1.firm (o:On h (D::l)) (w:Z1 k S D):
 ∃ c R,On h (c::R::l)/\ZCt k.pf S.parties S.used c/\∀ h' c' l' x,On h' (c'::R::l')->ZCt k.pf S.parties x c'->∃ D',On h' (D'::l')/\Z1 k {S with used:=x} D':=by
 obtain ⟨dB,dP,dK,cF,cQ,cA,cD,cO,cT,ks,cs,oc,wB,wP,wK,wF,w⟩:=w;obtain ⟨R,o1,_,hc⟩:=ZP9 o oc (i:=4) rfl;refine ⟨cF,R,o1,wF,λh' c' l' x o' w'=>?_⟩;obtain ⟨D',o2,o3⟩:=hc h' _ l' o';exact ⟨D',o2,dB,dP,dK,c',cQ,cA,cD,cO,cT,ks,cs,o3,wB,wP,wK,w',w⟩
theorem Z1.quotes (o:On h (D::l)) (w:Z1 k S D):
 ∃ c R,On h (c::R::l)/\Zv k.pq S.quotes c/\∀ h' c' l' x,On h' (c'::R::l')->Zv k.pq x c'->∃ D',On h' (D'::l')/\Z1 k {S with quotes:=x} D':=by
 obtain ⟨dB,dP,dK,cF,cQ,cA,cD,cO,cT,ks,cs,oc,wB,wP,wK,wF,wQ,w⟩:=w;obtain ⟨R,o1,_,hc⟩:=ZP9 o oc (i:=5) rfl;refine ⟨cQ,R,o1,wQ,λh' c' l' x o' w'=>?_⟩;obtain ⟨D',o2,o3⟩:=hc h' _ l' o';exact ⟨D',o2,dB,dP,dK,cF,c',cA,cD,cO,cT,ks,cs,o3,wB,wP,wK,wF,w',w⟩
theorem Z1.asks (o:On h (D::l)) (w:Z1 k S D):
 ∃ c R,On h (c::R::l)/\ZA1 k.pa S.asks c/\∀ h' c' l' x,On h' (c'::R::l')->ZA1 k.pa x c'->∃ D',On h' (D'::l')/\Z1 k {S with asks:=x} D':=by
 obtain ⟨dB,dP,dK,cF,cQ,cA,cD,cO,cT,ks,cs,oc,wB,wP,wK,wF,wQ,wA,w⟩:=w;obtain ⟨R,o1,_,hc⟩:=ZP9 o oc (i:=6) rfl;refine ⟨cA,R,o1,wA,λh' c' l' x o' w'=>?_⟩;obtain ⟨D',o2,o3⟩:=hc h' _ l' o';exact ⟨D',o2,dB,dP,dK,cF,cQ,c',cD,cO,cT,ks,cs,o3,wB,wP,wK,wF,wQ,w',w⟩
theorem Z1.dues (o:On h (D::l)) (w:Z1 k S D):
 ∃ c R,On h (c::R::l)/\ZGf k.pd S.due c/\∀ h' c' l' x,On h' (c'::R::l')->ZGf k.pd x c'->∃ D',On h' (D'::l')/\Z1 k {S with due:=x} D':=by
 obtain ⟨dB,dP,dK,cF,cQ,cA,cD,cO,cT,ks,cs,oc,wB,wP,wK,wF,wQ,wA,wD,w⟩:=w;obtain ⟨R,o1,_,hc⟩:=ZP9 o oc (i:=7) rfl;refine ⟨cD,R,o1,wD,λh' c' l' x o' w'=>?_⟩;obtain ⟨D',o2,o3⟩:=hc h' _ l' o';exact ⟨D',o2,dB,dP,dK,cF,cQ,cA,c',cO,cT,ks,cs,o3,wB,wP,wK,wF,wQ,wA,w',w⟩
theorem Z1.poss (o:On h (D::l)) (w:Z1 k S D):
 ∃ c R,On h (c::R::l)/\ZJE k.pp c/\∀ h' c' l',On h' (c'::R::l')->ZJE k.pp c'->∃ D',On h' (D'::l')/\Z1 k S D':=by
 obtain ⟨dB,dP,dK,cF,cQ,cA,cD,cO,cT,ks,cs,oc,wB,wP,wK,wF,wQ,wA,wD,wO,w⟩:=w;obtain ⟨R,o1,_,hc⟩:=ZP9 o oc (i:=8) rfl;refine ⟨cO,R,o1,wO,λh' c' l' o' w'=>?_⟩;obtain ⟨D',o2,o3⟩:=hc h' _ l' o';exact ⟨D',o2,dB,dP,dK,cF,cQ,cA,cD,c',cT,ks,cs,o3,wB,wP,wK,wF,wQ,wA,wD,w',w⟩
theorem Z1.blots (o:On h (D::l)) (w:Z1 k S D):
 ∃ c R,On h (c::R::l)/\ZCl k.pt S.trades c/\∀ h' c' l' x,On h' (c'::R::l')->ZCl k.pt x c'->∃ D',On h' (D'::l')/\Z1 k {S with trades:=x} D':=by
 obtain ⟨dB,dP,dK,cF,cQ,cA,cD,cO,cT,ks,cs,oc,wB,wP,wK,wF,wQ,wA,wD,wO,wT,w⟩:=w;obtain ⟨R,o1,_,hc⟩:=ZP9 o oc (i:=9) rfl;refine ⟨cT,R,o1,wT,λh' c' l' x o' w'=>?_⟩;obtain ⟨D',o2,o3⟩:=hc h' _ l' o';exact ⟨D',o2,dB,dP,dK,cF,cQ,cA,cD,cO,c',ks,cs,o3,wB,wP,wK,wF,wQ,wA,wD,wO,w',w⟩
theorem Books.set {ps:List (Option Addr)} {bs:List (List ZE)} {cs:List Hp} (w:Books ps bs cs) {i:Nat} {p:Option Addr} {b:List ZE} {c:Hp} (hp:ps[i]?=some p) (hb:Zk p b c):Books ps (bs.set i b) (cs.set i c):=by
 obtain ⟨h1,h2,h3⟩:=w;refine ⟨by simpa using h1,by simpa using h2,λj p' b' c' e1 e2 e3=>?_⟩;by_cases hij:i=j
 .subst hij;rw [hp] at e1;cases e1;have hlt:i<bs.length:=by rw [<-h1]; exact (List.getElem?_eq_some_iff.1 hp).1
  rw [List.getElem?_set_self hlt] at e2;rw [List.getElem?_set_self (by omega)] at e3;cases e2; cases e3;exact hb
 .rw [List.getElem?_set_ne hij] at e2 e3;exact h3 j p' b' c' e1 e2 e3
theorem Z1.book (o:On h (D::l)) (w:Z1 k S D) {i:Nat} (hi:i<S.books.length):
 ∃ c R q,On h (c::R::l)/\Zk q S.books[i] c/\(∀ {K:Option Addr->Prop} {h'} {l'},On h' (D::l')->K q->ZC cSl ⟨k.b,5,none⟩ h' λs=>Zl s.a s.len (i:Int) λa=>ZC cP (a.add ((i:Int).toNat*1)) h' K)/\
  ∀ h' c' l' x,On h' (c'::R::l')->Zk q x c'->∃ D',On h' (D'::l')/\Z1 k {S with books:=S.books.set i x} D':=by
 obtain ⟨dB,dP,dK,cF,cQ,cA,cD,cO,cT,ks,cs,oc,wB,wP,wK,wF,wQ,wA,wD,wO,wT,wb⟩:=w;obtain ⟨hb1,hb2,hb3⟩:=wb;have hc:cs[i]?=some cs[i]:=List.getElem?_eq_getElem (by omega);have hk:ks[i]?=some ks[i]:=List.getElem?_eq_getElem (by omega);have hx:S.books[i]?=some S.books[i]:=List.getElem?_eq_getElem hi;obtain ⟨R,o1,_,hcl⟩:=ZP9 o oc (i:=i+10) hc;refine ⟨cs[i],R,ks[i],o1,hb3 i _ _ _ hk hx hc,λ{K h' l'} o' hK=>?_,λh' c' l' x o' w'=>?_⟩
 .have hD:D.sub h':=o'.mem (by simp);refine ZF (b:=k.b) (vs:=ZAK k S) (e:=121) (cd:=cSl) (x:=k.sk) (Hp.sub_trans (oc.mem (by simp)) hD) (i:=5) rfl ?_;have:=wK.1;refine ZL wK.row (Int.natCast_nonneg i) (by omega) λa ha=>?_;exact ZO wK.row (Hp.sub_trans (oc.mem (c:=dK) (by simp)) hD) rfl ha (i:=i) hk rfl hK
 .obtain ⟨D',o2,o3⟩:=hcl h' _ l' o';exact ⟨D',o2,dB,dP,dK,cF,cQ,cA,cD,cO,cT,ks,cs.set i c',o3,wB,wP,wK,wF,wQ,wA,wD,wO,wT,Books.set ⟨hb1,hb2,hb3⟩ hk w'⟩
end
structure DC where
 d:DS
 id:Int
 outs:List Out
def ZEb (to kind:Int) (ns:List Int):Out:=⟨to,kind,ns.getD 0 0,ns.getD 1 0,ns.getD 2 0,ns.getD 3 0,ns.getD 4 0,ns.getD 5 0⟩
def ZBQ (c:DC) (to kind:Int) (ns:List Int):DC:={c with outs:=c.outs++[ZEb to kind ns]}
def Zc (S:DS) (n:Int):List ZE:=(S.books[n.toNat]?).getD []
def ZTs:Bond:=⟨0,0,0,0,0,0,false⟩
def ZAY (S:DS) (n:Int):Bond:=(S.bonds[n.toNat]?).getD ZTs
def isBond (S:DS) (n:Int):Bool:=decide (0<=n/\n<S.books.length)
def ZA7 (S:DS) (n:Int) (x:List ZE):DS:={S with books:=S.books.set n.toNat x}
def ZBI (S:DS) (s who other:Int) (t:ZAr):ZAr:={t with Buyer:=if s=2 then other else who,Seller:=if s=2 then who else other,Tick:=S.now}
def ZE2 (c:DC) (s who other:Int) (t:ZAr):DC:=
 {c with d:={c.d with trades:=c.d.trades++[ZLZ c.d.trades (ZBI c.d s who other t)]},outs:=c.outs++ZFf (ZLZ c.d.trades (ZBI c.d s who other t))}
def ZMc (n:Int) (f:ZH5):ZAr:=⟨0,n,0,0,f.Price,f.Qty,0,0⟩
def ZBm (who n:Int) (o:ZE) (st:DC×Int) (f:ZH5):DC×Int:=
 (ZE2 (ZBQ (ZBQ st.1 f.MakerParty 20 [f.Maker,f.Price,f.Qty,f.Left]) who 20 [o.ID,f.Price,f.Qty,IntKind.i64.wrap (st.2-f.Qty)]) o.Side who f.MakerParty (ZMc n f),IntKind.i64.wrap (st.2-f.Qty))
def ZB3 (who:Int) (c:DC) (g:ZOs):DC:=ZBQ c who 21 [g.ID,g.Left]
def ZDv (c:DC) (o:ZE):ZE:={o with Seq:=c.d.seq+1}
def ZH7 (c:DC) (n:Int) (x:List ZE):DC:={c with d:={c.d with books:=c.d.books.set n.toNat x,seq:=c.d.seq+1}}
def Zt (c:DC) (who n:Int) (o:ZE) (how:Int):DC×Int:=
 if (doV (Zc c.d n) (ZDv c o) how).2.2.2.2≠0 then ({c with d:=ZA7 c.d n (doV (Zc c.d n) (ZDv c o) how).1},(doV (Zc c.d n) (ZDv c o) how).2.2.2.2)
 else
  (if how≠0∧how≠3∧0<(doV (Zc c.d n) (ZDv c o) how).2.2.2.1 then
     ZBQ ((doV (Zc c.d n) (ZDv c o) how).2.1.foldl (ZBm who n o) ((doV (Zc c.d n) (ZDv c o) how).2.2.1.foldl (ZB3 who) (ZH7 c n (doV (Zc c.d n) (ZDv c o) how).1),o.Left)).1 who 21 [o.ID,(doV (Zc c.d n) (ZDv c o) how).2.2.2.1]
  else ((doV (Zc c.d n) (ZDv c o) how).2.1.foldl (ZBm who n o) ((doV (Zc c.d n) (ZDv c o) how).2.2.1.foldl (ZB3 who) (ZH7 c n (doV (Zc c.d n) (ZDv c o) how).1),o.Left)).1,0)
def ZPv (b:Bond) (how price qty:Int):Int:=if how≠4 then ZHj b price qty else if price≠0 then 1 else if b.Halted=true then 6 else ZTa b qty
def Zs (c:DC) (who:Int) (m:Msg):ZE:=⟨c.d.order+1,0,who,m.F_1,m.F_2,m.F_3⟩
def ZaD (c:DC):DC:={d:={c.d with order:=c.d.order+1},id:=c.d.order+1,outs:=c.outs}
def ZA4 (c:DC) (who:Int) (m:Msg):DC×Int:=
 if isBond c.d m.F_0=false then (c,4)
 else if ZBZ m.F_1=false\/m.F_4<0\/4<m.F_4 then (c,1)
 else if ZPv (ZAY c.d m.F_0) m.F_4 m.F_2 m.F_3≠0 then (c,ZPv (ZAY c.d m.F_0) m.F_4 m.F_2 m.F_3)
 else if (Zt c who m.F_0 (Zs c who m) m.F_4).2=0 then (ZaD (Zt c who m.F_0 (Zs c who m) m.F_4).1,0)
 else Zt c who m.F_0 (Zs c who m) m.F_4
def ZAi (S:DS) (id:Int):Option Nat:=S.books.findIdx? λb=>(ZQB b id).isSome
def ZGD (o:ZE) (price qty:Int):ZE:={o with Price:=price,Left:=qty}
def ZDC (c:DC) (who n:Int) (o:ZE) (price qty:Int):DC×Int:=
 if ZHj (ZAY c.d n) price qty≠0 then (c,ZHj (ZAY c.d n) price qty)
 else if price=o.Price/\qty<=o.Left then ({c with d:=ZA7 c.d n (ZDD (Zc c.d n) o.ID qty).1},(ZDD (Zc c.d n) o.ID qty).2)
 else Zt {c with d:=ZA7 c.d n (ZBC (Zc c.d n) o.ID)} who n (ZGD o price qty) 0
def ZMD (c:DC) (who n:Int) (id left:Int):DC:=ZBQ {c with d:=ZA7 c.d n (ZBC (Zc c.d n) id)} who 21 [id,left]
def ZAM (c:DC) (who:Int) (m:Msg):DC×Int:=
 if m.Kind=6 then ZA4 c who m
 else match ZAi c.d m.F_0 with
 | none=>(c,4)
 | some n=>
   if (ZO8 (Zc c.d n) m.F_0).1.Owner≠who then (c,5)
   else if m.Kind=8 then ZDC {c with id:=m.F_0} who n (ZO8 (Zc c.d n) m.F_0).1 m.F_1 m.F_2
   else (ZMD {c with id:=m.F_0} who n m.F_0 (ZO8 (Zc c.d n) m.F_0).1.Left,0)
def ZJv (n:Int):Bool:=decide (1<=n/\n<=1000)
def Z9 (c:DC) (who:Int) (m:Msg):Ask:=⟨c.d.ask+1,who,m.F_0,m.F_1,m.F_2,IntKind.u64.wrap m.F_3,IntKind.i64.wrap (c.d.now+m.F_4),0,1,0⟩
def ZBf (a:Ask) (c:DC) (i:Nat):DC:=if ZDH .u64 (ZBT .u64 a.Dealers i) 1=1 then ZBQ c i 22 [a.ID,a.Bond,a.Side,a.Qty,a.Ends] else c
def ZQC (c:DC) (a:Ask):DC:={c with d:={c.d with asks:=(ZIg c.d.asks a).1,ask:=c.d.ask+1,due:=c.d.due+1},id:=c.d.ask+1}
def ZBX (c:DC) (who:Int) (m:Msg):DC×Int:=
 if isBond c.d m.F_0=false then (c,4)
 else if ZBZ m.F_1=false then (c,1)
 else if (ZAY c.d m.F_0).Halted=true then (c,6)
 else if ZTa (ZAY c.d m.F_0) m.F_2≠0 then (c,ZTa (ZAY c.d m.F_0) m.F_2)
 else if ZIx c.d.parties who (IntKind.u64.wrap m.F_3)≠0 then (c,ZIx c.d.parties who (IntKind.u64.wrap m.F_3))
 else if ZJv m.F_4=false then (c,1)
 else if (ZIg c.d.asks (Z9 c who m)).2≠0 then (c,(ZIg c.d.asks (Z9 c who m)).2)
 else ((List.range c.d.parties.length).foldl (ZBf (Z9 c who m)) (ZQC c (Z9 c who m)),0)
def ZFN (S:DS) (q:Za):Bool:=match getA S.asks q.Ask with
 | none=>false
 | some a=>a.State==2&&a.Hit==q.ID
def ZID (c:DC) (who id:Int):DC×Int:=match getQ c.d.quotes id with
 | none=>(c,4)
 | some q=>if q.Dealer≠who then (c,5) else if ZFN c.d q=true then (c,11) else ({c with d:={c.d with quotes:=(ZIC c.d.quotes id who).1},id:=id},(ZIC c.d.quotes id who).2)
def Z5 (c:DC) (who:Int) (a:Ask) (m:Msg):Za:=⟨c.d.quote+1,a.ID,who,m.F_1,IntKind.i64.wrap (c.d.now+m.F_2),true⟩
def ZOJ (c:DC) (q:Za):DC:={c with d:={c.d with quotes:=(ZIT c.d.quotes q).1,quote:=c.d.quote+1,due:=c.d.due+1},id:=c.d.quote+1}
def ZCR (c:DC) (who:Int) (m:Msg):DC×Int:=
 if m.Kind=11 then ZID c who m.F_0
 else match getA c.d.asks m.F_0 with
 | none=>(c,4)
 | some a=>
   if ZDH .u64 (ZBT .u64 a.Dealers who) 1=0 then (c,5)
   else if a.State≠1 then (c,11)
   else if (ZAY c.d a.Bond).Halted=true then (c,6)
   else if ZDx (ZAY c.d a.Bond) m.F_1≠0 then (c,ZDx (ZAY c.d a.Bond) m.F_1)
   else if ZJv m.F_2=false then (c,1)
   else if (ZIT c.d.quotes (Z5 c who a m)).2≠0 then (c,(ZIT c.d.quotes (Z5 c who a m)).2)
   else (ZBQ (ZOJ c (Z5 c who a m)) a.Client 23 [a.ID,(Z5 c who a m).ID,m.F_1,(Z5 c who a m).Expires],0)
def ZB4 (S:DS) (who id:Int):Ask×Int:=match getA S.asks id with
 | none=>(ZPO,4)
 | some a=>if a.Client≠who then (a,5) else if a.State≠1 then (a,11) else (a,0)
def ZC2 (S:DS) (a:Ask) (q:Za):Int:=if (ZAY S a.Bond).Halted=true then 6 else ZSm (Zc S a.Bond) a.Side q.Price a.Qty
def ZEL (S:DS):Int:=IntKind.i64.wrap (S.now+S.look)
def ZNp (c:DC) (a:Ask) (q:Za):DC×Int:=
 if q.Live=false\/q.Expires<=c.d.now then (c,12)
 else if ZC2 c.d a q≠0 then (c,ZC2 c.d a q)
 else if (ZEh c.d.parties c.d.used q.Dealer q.Price a.Qty).2≠0 then (c,(ZEh c.d.parties c.d.used q.Dealer q.Price a.Qty).2)
 else if (ZDX c.d.asks a.ID q.ID (ZEL c.d)).2≠0 then (c,(ZDX c.d.asks a.ID q.ID (ZEL c.d)).2)
 else (ZBQ {c with d:={c.d with asks:=(ZDX c.d.asks a.ID q.ID (ZEL c.d)).1,due:=c.d.due+1},id:=a.ID} q.Dealer 24 [a.ID,q.ID,ZEL c.d],0)
def ZGg (c:DC) (who:Int) (m:Msg):DC×Int:=
 if m.Kind=12 then match getQ c.d.quotes m.F_0 with
  | none=>(c,4)
  | some q=>if (ZB4 c.d who q.Ask).2≠0 then (c,(ZB4 c.d who q.Ask).2) else ZNp c (ZB4 c.d who q.Ask).1 q
 else if (ZB4 c.d who m.F_0).2≠0 then (c,(ZB4 c.d who m.F_0).2)
 else if (ZLa (ZB4 c.d who m.F_0).1.Side (c.d.quotes.filter (ZPh (ZB4 c.d who m.F_0).1.ID c.d.now))).2=false then (c,12)
 else ZNp c (ZB4 c.d who m.F_0).1 (ZLa (ZB4 c.d who m.F_0).1.Side (c.d.quotes.filter (ZPh (ZB4 c.d who m.F_0).1.ID c.d.now))).1
def ZTb (c:DC) (id st:Int):DC:={c with d:={c.d with asks:=(ZRe c.d.asks id st).1,quotes:=ZIr c.d.quotes id}}
def ZHW (c:DC) (a:Ask):DC:=ZBQ (ZTb c a.ID 4) a.Client 27 [a.ID]
def ZFm (c:DC) (id:Int):DC:={c with d:={c.d with quotes:=killQ c.d.quotes id}}
def ZAH (c:DC) (a:Ask):DC:=
 if a.Ends<=c.d.now then ZHW (ZFm c a.Hit) a
 else ZBQ {ZFm c a.Hit with d:={(ZFm c a.Hit).d with asks:=(ZGl c.d.asks a.ID).1}} a.Client 25 [a.ID,a.Hit]
def ZCz (S:DS) (a:Ask):Za:=(ZLF ZM0 (getQ S.quotes a.Hit)).1
def ZXB (c:DC) (a:Ask) (q:Za):DC:=
 ZE2 (ZBQ (ZTb {c with d:={c.d with used:=(ZJx c.d.parties c.d.used q.Dealer q.Price a.Qty).1}} a.ID 3) a.Client 26 [a.ID,q.Price]) a.Side a.Client q.Dealer ⟨0,a.Bond,0,0,q.Price,a.Qty,a.ID,0⟩
def ZDt (c:DC) (who:Int) (m:Msg):DC×Int:=match getA c.d.asks m.F_0 with
 | none=>(c,4)
 | some a=>
   if a.State≠2 then (c,11)
   else if (ZCz c.d a).Dealer≠who then (c,5)
   else if m.Kind=15 then (ZAH {c with id:=a.ID} a,0)
   else if ZC2 c.d a (ZCz c.d a)≠0 then ({c with id:=a.ID},ZC2 c.d a (ZCz c.d a))
   else if (ZJx c.d.parties c.d.used (ZCz c.d a).Dealer (ZCz c.d a).Price a.Qty).2≠0 then ({c with id:=a.ID},(ZJx c.d.parties c.d.used (ZCz c.d a).Dealer (ZCz c.d a).Price a.Qty).2)
   else (ZXB {c with id:=a.ID} a (ZCz c.d a),0)
def ZGe (c:DC) (who id:Int):DC×Int:=if (ZB4 c.d who id).2=0 then (ZHW {c with id:=id} (ZB4 c.d who id).1,0) else (c,(ZB4 c.d who id).2)
def ZXZ (is:Int) (b:Bond):Bond:={b with Halted:=is==1}
def ZGh (c:DC) (n is:Int):DC×Int:=
 if isBond c.d n=false then (c,4)
 else if is≠0/\is≠1 then (c,1)
 else ({c with d:={c.d with bonds:=c.d.bonds.set n.toNat (ZXZ is (ZAY c.d n))},id:=n},0)
def ZV3 (S:DS) (who:Int) (m:Msg):Bool:=decide (6<=m.Kind/\m.Kind<=17)&&(isV m&&ZZA (ZIF S.parties who) m.Kind)
def ZAp (c:DC) (who:Int) (m:Msg):DC×Int:=
 if ZV3 c.d who m=false then (c,5)
 else if m.Kind=6\/m.Kind=7\/m.Kind=8 then ZAM c who m
 else if m.Kind=10\/m.Kind=11 then ZCR c who m
 else if m.Kind=12\/m.Kind=13 then ZGg c who m
 else if m.Kind=14\/m.Kind=15 then ZDt c who m
 else if m.Kind=16 then ZGe c who m.F_0
 else if m.Kind=9 then ZBX c who m
 else ZGh c m.F_0 m.F_1
def ZEf (S:DS):DC:=⟨S,0,[]⟩
def doD (S:DS) (who seq:Int) (m:Msg):DS×List Out:=
 if (ZAp (ZEf S) who m).2≠0 then ((ZAp (ZEf S) who m).1.d,[ZEb who 19 [seq,(ZAp (ZEf S) who m).2]])
 else ((ZAp (ZEf S) who m).1.d,ZEb who 18 [seq,(ZAp (ZEf S) who m).1.id]::(ZAp (ZEf S) who m).1.outs)
def Zu (k:DK) (S:DS) (h:Hp) (l:List Hp):Prop:=∃ D,On h (D::l)/\Z1 k S D
def ZEq (b:Nat) (who id:Int) (outs:List Out) (C:Hp):Prop:=∃ (s:Sl) (d:Hp),On C [ob b [Value.int .i64 who,Value.int .i64 id,sv s] 191,d]/\Own ZCJ d s outs
def Has (k:DK) (b:Nat) (who:Int) (c:DC) (h:Hp) (l:List Hp):Prop:=∃ C,ZEq b who c.id c.outs C/\Zu k c.d h (C::l)
section
variable {k:DK} {S:DS} {b:Nat} {who:Int} {c:DC} {h:Hp} {l:List Hp}
theorem Zu.ob (a:Zu k S h l):(Go.Eng.ob k.b (ZAK k S) 121).sub h:=by obtain ⟨D,o,w⟩:=a;exact w.ob (o.mem (by simp))
theorem Zu.sub (a:Zu k S h l) {g:Hp} (hg:g∈l):g.sub h:=by obtain ⟨D,o,w⟩:=a;exact o.mem (by simp [hg])
theorem Zu.new (a:Zu k S h l) {vs:List Value} {e:TypeId} {K:Nat->Hp->Prop} (h2:∀ b h',Zu k S h' (Go.Eng.ob b vs e::l)->K b h'):ZM (.cells vs.toArray e (0,0)) h K:=by obtain ⟨D,o,w⟩:=a;exact ZH o λb h' o'=>h2 b h' ⟨D,o'.swap,w⟩
theorem Zu.drop {g:Hp} (a:Zu k S h (g::l)):Zu k S h l:=by obtain ⟨D,o,w⟩:=a;exact ⟨D,o.sublist (List.Sublist.cons_cons _ (List.sublist_cons_self _ _)),w⟩
theorem Zu.perm {l':List Hp} (a:Zu k S h l) (p:l.Perm l'):Zu k S h l':=by obtain ⟨D,o,w⟩:=a;exact ⟨D,o.perm (p.cons _),w⟩
theorem Has.ob (a:Has k b who c h l):(Go.Eng.ob k.b (ZAK k c.d) 121).sub h:=by obtain ⟨C,_,a⟩:=a;exact a.ob
theorem Has.call (a:Has k b who c h l):∃ s,(Go.Eng.ob b [Value.int .i64 who,Value.int .i64 c.id,sv s] 191).sub h:=by obtain ⟨C,⟨s,d,o,_⟩,a⟩:=a;exact ⟨s,Hp.sub_trans (o.mem (by simp)) (a.sub (by simp))⟩
theorem Has.ldWho (a:Has k b who c h l) {K:Int->Prop} (hK:K who):ZC (cI .i64) ⟨b,0,none⟩ h K:=by obtain ⟨s,hs⟩:=a.call;exact ZF (cd:=cI .i64) (x:=who) hs (i:=0) rfl hK
theorem Has.new (a:Has k b who c h l) {vs:List Value} {e:TypeId} {K:Nat->Hp->Prop} (h2:∀ n h',Has k b who c h' (Go.Eng.ob n vs e::l)->K n h'):ZM (.cells vs.toArray e (0,0)) h K:=by obtain ⟨C,wc,a⟩:=a;exact a.new λn h' a'=>h2 n h' ⟨C,wc,a'.perm (List.Perm.swap _ _ _)⟩
theorem Has.drop {g:Hp} (a:Has k b who c h (g::l)):Has k b who c h l:=by obtain ⟨C,wc,a⟩:=a;exact ⟨C,wc,(a.perm (List.Perm.swap _ _ _)).drop⟩
theorem Has.sub (a:Has k b who c h l) {g:Hp} (hg:g∈l):g.sub h:=by obtain ⟨C,wc,a⟩:=a;exact a.sub (by simp [hg])
theorem Has.setId (a:Has k b who c h l) {id:Int} {K:Hp->Prop} (hK:∀ h',Has k b who {c with id:=id} h' l->K h'):ZV (cI .i64) ⟨b,1,none⟩ id h K:=by obtain ⟨C,⟨s,d,oc,wd⟩,D,o,w⟩:=a;have o1:On h (Go.Eng.ob b [Value.int .i64 who,Value.int .i64 c.id,sv s] 191::d::D::l):=o.swap.split oc;refine ZZ (cd:=cI .i64) (i:=1) (x:=id) (vs':=[Value.int .i64 who,Value.int .i64 id,sv s]) o1 rfl rfl (by show 1+1<=3; omega) λh2 o2=>?_;obtain ⟨o3,o4⟩:=On.joined (cs:=[Go.Eng.ob b [Value.int .i64 who,Value.int .i64 id,sv s] 191,d]) (l:=D::l) o2;exact hK h2 ⟨_,⟨s,d,o4,wd⟩,D,o3.swap,w⟩
theorem ZNn {to kind:Int} {ns:List Int} {s:Sl} {g:Hp} (o:On h l) (r:Row (cI .i64) g s ns) (hg:g∈l) (hn:ns.length<=6) {Q:Out->Hp->Prop} (hq:∀ h',On h' l->Q (ZEb to kind ns) h'):
 ZA TP 79 [Value.int .i64 to,Value.int .i64 kind,Value.slice s.a s.len s.cap] ZCJ h Q:=by
 refine c79 ?_;unfold F79;have hlen:=r.1;refine ZH o λk1 h1 o1=>?_;refine ZZ (cd:=ZCJ) (i:=0) (x:=⟨to,kind,0,0,0,0,0,0⟩) (vs':=[Value.int .i64 to,Value.int .i64 kind,Value.int .i64 0,Value.int .i64 0,Value.int .i64 0,Value.int .i64 0,Value.int .i64 0,Value.int .i64 0]) o1 rfl rfl (Nat.le_refl 8) λh2 o2=>?_;show ZBG (cI .i64) (Zm (some ⟨k1,2,none⟩) 0 6 1) 6 s.a s.len h2 (λn1 h3=>ZC ZCJ ⟨k1,0,none⟩ h3 λx1=>Q x1 h3);rw [ZIw];have w2:Own (cI .i64) (Go.Eng.ob k1 [Value.int .i64 to,Value.int .i64 kind,Value.int .i64 0,Value.int .i64 0,Value.int .i64 0,Value.int .i64 0,Value.int .i64 0,Value.int .i64 0] 78) ⟨some ⟨k1,0,none⟩,8,8⟩ [to,kind,0,0,0,0,0,0]:=
  ZBN (rest:=[]) rfl rfl (by simp)
 have hmin:min s.len 6=ns.length:=by omega
 refine ZN9 (g:=g) (k:=2) (cap0:=s.cap) (ys:=ns) o2 rfl w2 (a:=⟨k1,0,none⟩) rfl (by rw [hmin,<-hlen]; exact r) (o2.mem (by simp [hg])) (by simp only [List.length_cons,List.length_nil]; omega) λc3 h3 o3 w3=>?_;have hr:=w3.row.2;refine ⟨ZEb to kind ns,Hp.sub_rds (o3.mem (c:=c3) (by simp)) ?_,hq h3 o3.tail⟩;have e:ZG (cI .i64) (List.take 2 [to,kind,0,0,0,0,0,0]++(ns++List.drop (2+ns.length) [to,kind,0,0,0,0,0,0]))=(ZCJ.enc (ZEb to kind ns)).cells.toList:=by
  match ns,hn with
  | [],_=>rfl
  | [a],_=>rfl
  | [a,b],_=>rfl
  | [a,b,c],_=>rfl
  | [a,b,c,d],_=>rfl
  | [a,b,c,d,e],_=>rfl
  | [a,b,c,d,e,f],_=>rfl
  | _::_::_::_::_::_::_::_,h=>simp at h
 rw [<-e];exact hr
theorem ZUA {to kind:Int} {ns:List Int} {s:Sl} {g:Hp} (a:Has k b who c h l) (r:Row (cI .i64) g s ns) (hg:g∈l) (hn:ns.length<=6) (hl:c.outs.length<=1000000) {Q:PUnit->Hp->Prop} (hq:∀ h',Has k b who (ZBQ c to kind ns) h' l->Q ⟨⟩ h'):
 ZA TP 86 [Value.pointer (some ⟨b,0,none⟩),Value.int .i64 to,Value.int .i64 kind,Value.slice s.a s.len s.cap] (ZW []) h Q:=by
 obtain ⟨C,⟨s1,d,oc,wd⟩,D,o,w⟩:=a;refine c86 ?_;unfold F86;have o1:On h (Go.Eng.ob b [Value.int .i64 who,Value.int .i64 c.id,sv s1] 191::d::D::l):=o.swap.split oc;dsimp only [ZR];refine ZI (x:=s1) o1 0 (i:=2) rfl rfl ?_;refine ZNn (g:=g) o1 r (by simp [hg]) hn λh2 o2=>?_;refine ⟨⟨Hp.sub_rds (o2.get (i:=0) rfl) (ZCS (i:=2) rfl),trivial⟩,?_⟩;refine ZH o2 λk3 h3 o3=>?_;refine ZU (cd:=ZCJ) (g:=Go.Eng.ob k3 (ZCJ.enc (ZEb to kind ns)).cells.toList 78) (s:=s1) (t:=⟨some ⟨k3,0,none⟩,1,1⟩) (ys:=[ZEb to kind ns]) (o3.rot3) rfl wd (by decide) (Ze (by rfl) rfl) (o3.get (i:=0) rfl) ?_ λd4 p n m h4 o4 w4=>?_
 .rw [List.length_singleton];exact Nat.le_trans (Nat.mul_le_mul_right _ (show _<=1000001 by omega)) (by decide)
 .refine ZZ (cd:=cSl) (i:=2) (x:=⟨p,n,m⟩) (vs':=[Value.int .i64 who,Value.int .i64 c.id,sv ⟨p,n,m⟩]) (o4.rot3) rfl rfl (by show 2+1<=3; omega) λh5 o5=>?_;have o6:On h5 (Go.Eng.ob b [Value.int .i64 who,Value.int .i64 c.id,sv ⟨p,n,m⟩] 191::d4::D::l):=o5.pick [0,1,3] 4 (by decide) (by decide);obtain ⟨o7,o8⟩:=On.joined (cs:=[Go.Eng.ob b [Value.int .i64 who,Value.int .i64 c.id,sv ⟨p,n,m⟩] 191,d4]) (l:=D::l) o6;exact hq h5 ⟨_,⟨_,d4,o8,w4⟩,D,o7.swap,w⟩
end
section
variable {k:DK} {S:DS} {b:Nat} {who:Int} {c:DC} {h:Hp} {l:List Hp}
theorem Zu.bonds (a:Zu k S h l):∃ c R,On h (c::R::l)/\Own ZAB c k.sb S.bonds/\∀ h' c' l' x,On h' (c'::R::l')->Own ZAB c' k.sb x->Zu k {S with bonds:=x} h' l':=by obtain ⟨D,o,w⟩:=a;exact w.bonds o
theorem Zu.firm (a:Zu k S h l):∃ c R,On h (c::R::l)/\ZCt k.pf S.parties S.used c/\∀ h' c' l' x,On h' (c'::R::l')->ZCt k.pf S.parties x c'->Zu k {S with used:=x} h' l':=by obtain ⟨D,o,w⟩:=a;exact w.firm o
theorem Zu.quotes (a:Zu k S h l):∃ c R,On h (c::R::l)/\Zv k.pq S.quotes c/\∀ h' c' l' x,On h' (c'::R::l')->Zv k.pq x c'->Zu k {S with quotes:=x} h' l':=by obtain ⟨D,o,w⟩:=a;exact w.quotes o
theorem Zu.asks (a:Zu k S h l):∃ c R,On h (c::R::l)/\ZA1 k.pa S.asks c/\∀ h' c' l' x,On h' (c'::R::l')->ZA1 k.pa x c'->Zu k {S with asks:=x} h' l':=by obtain ⟨D,o,w⟩:=a;exact w.asks o
theorem Zu.dues (a:Zu k S h l):∃ c R,On h (c::R::l)/\ZGf k.pd S.due c/\∀ h' c' l' x,On h' (c'::R::l')->ZGf k.pd x c'->Zu k {S with due:=x} h' l':=by obtain ⟨D,o,w⟩:=a;exact w.dues o
theorem Zu.blots (a:Zu k S h l):∃ c R,On h (c::R::l)/\ZCl k.pt S.trades c/\∀ h' c' l' x,On h' (c'::R::l')->ZCl k.pt x c'->Zu k {S with trades:=x} h' l':=by obtain ⟨D,o,w⟩:=a;exact w.blots o
theorem Zu.poss (a:Zu k S h l):∃ c R,On h (c::R::l)/\ZJE k.pp c/\∀ h' c' l',On h' (c'::R::l')->ZJE k.pp c'->Zu k S h' l':=by obtain ⟨D,o,w⟩:=a;exact w.poss o
theorem Zu.nums (a:Zu k S h l):∃ R,On h (Go.Eng.ob k.b (ZAK k S) 121::R::l)/\∀ h' l' now order seq quote ask,On h' (Go.Eng.ob k.b (ZAK k {S with now:=now,order:=order,seq:=seq,quote:=quote,ask:=ask}) 121::R::l')->
 Zu k {S with now:=now,order:=order,seq:=seq,quote:=quote,ask:=ask} h' l':=by
 obtain ⟨D,o,w⟩:=a;exact w.nums o
theorem Zu.book (a:Zu k S h l) {i:Nat} (hi:i<S.books.length):∃ c R q,On h (c::R::l)/\Zk q S.books[i] c/\(∀ {K:Option Addr->Prop},K q->ZC cSl ⟨k.b,5,none⟩ h λs=>Zl s.a s.len (i:Int) λa=>ZC cP (a.add ((i:Int).toNat*1)) h K)/\
 ∀ h' c' l' x,On h' (c'::R::l')->Zk q x c'->Zu k {S with books:=S.books.set i x} h' l':=by
 obtain ⟨D,o,w⟩:=a;obtain ⟨c,R,q,o1,w1,hl,hc⟩:=w.book o hi;exact ⟨c,R,q,o1,w1,λhK=>hl o hK,hc⟩
theorem Zu.dsub (a:Zu k S h l):∃ D,D.sub h/\Z1 k S D:=by obtain ⟨D,o,w⟩:=a;exact ⟨D,o.mem (by simp),w⟩
theorem ZLf {s w0 other:Int} {t:ZAr} (a:Has k b who c h l) (ht:ZCx (ZBI c.d s w0 other t)) (hl:c.d.trades.length≤1000000) (ho:c.outs.length≤1000000) {Q:PUnit→Hp→Prop} (hq:∀ h',Has k b who (ZE2 c s w0 other t) h' l→Q ⟨⟩ h'):
 ZA TP 217 [Value.pointer k.p,Value.pointer (some ⟨b,0,none⟩),Value.int .i64 s,Value.int .i64 w0,Value.int .i64 other,Z4.enc t] (ZW []) h Q:=by
 refine c217 ?_;unfold F217;refine ZF (cd:=cI .i64) (x:=c.d.now) a.ob (i:=4) rfl ?_;refine ZN (λx h'=>h'=h/\x=ZBI c.d s w0 other t) ?_ λJ hJ=>?_
 .rintro x h' ⟨rfl,rfl⟩;refine ZF (cd:=cP) (x:=k.pp) a.ob (i:=10) rfl ?_;obtain ⟨C,⟨s1,d,oc,wd⟩,a⟩:=a;obtain ⟨cp,R,o1,w1,cl⟩:=a.poss;refine ZRW (t:=ZBI c.d s w0 other t) o1 w1 λr c2 h2 o2 w2=>?_;have a2:=cl _ _ _ o2 w2;have hC2:=a2.sub (g:=C) (by simp);dsimp only [ZR];refine ZF (b:=b) (vs:=[Value.int .i64 who,Value.int .i64 c.id,sv s1]) (e:=191) (cd:=cSl) (x:=s1) (Hp.sub_trans (oc.mem (by simp)) hC2) (i:=2) rfl ?_;refine ZF (cd:=cP) (x:=k.pt) a2.ob (i:=11) rfl ?_;obtain ⟨cb,R3,o3,w3,cl3⟩:=a2.blots;refine ZX5 (t:=ZBI c.d s w0 other t) o3 w3 hl ht λc4 h4 o4 w4=>?_;have a4:=cl3 _ _ _ _ o4 w4;have hC4:=a4.sub (g:=C) (by simp);refine ⟨⟨Hp.sub_rds (Hp.sub_trans (oc.mem (c:=Go.Eng.ob b [Value.int .i64 who,Value.int .i64 c.id,sv s1] 191) (by simp)) hC4) (ZCS (i:=2) rfl),trivial⟩,?_⟩;obtain ⟨D4,o4,w4⟩:=a4;refine ZW0 (t:=ZLZ c.d.trades (ZBI c.d s w0 other t)) o4 λs5 d5 h5 o5 w5=>?_;have o6:On h5 (Go.Eng.ob b [Value.int .i64 who,Value.int .i64 c.id,sv s1] 191::d::d5::D4::l):=(o5.rot3).split oc;refine ⟨⟨Hp.sub_rds (o6.get (i:=0) rfl) (ZCS (i:=2) rfl),trivial⟩,?_⟩;refine ZU (cd:=ZCJ) (g:=d5) (s:=s1) (t:=s5) (ys:=ZFf (ZLZ c.d.trades (ZBI c.d s w0 other t))) o6.swap rfl wd (by decide) w5.row (o6.mem (by simp)) ?_ λd7 p n m h7 o7 w7=>?_
  .refine Nat.le_trans (Nat.mul_le_mul_right _ (show _<=1000002 from ?_)) (by decide);show c.outs.length+2<=1000002;omega
  .refine ZZ (cd:=cSl) (i:=2) (x:=⟨p,n,m⟩) (vs':=[Value.int .i64 who,Value.int .i64 c.id,sv ⟨p,n,m⟩]) o7.swap rfl rfl (by show 2+1<=3; omega) λh8 o8=>?_;have o9:On h8 (Go.Eng.ob b [Value.int .i64 who,Value.int .i64 c.id,sv ⟨p,n,m⟩] 191::d7::D4::l):=o8.pick [0,1,3] 4 (by decide) (by decide);obtain ⟨o10,o11⟩:=On.joined (cs:=[Go.Eng.ob b [Value.int .i64 who,Value.int .i64 c.id,sv ⟨p,n,m⟩] 191,d7]) (l:=D4::l) o9;exact hq h8 ⟨_,⟨_,d7,o11,w7⟩,D4,o10.swap,w4⟩
 .unfold ZBI at hJ;refine ZD (λe=>hJ _ _ ⟨rfl,?_⟩) λe=>hJ _ _ ⟨rfl,?_⟩
  .have e:s=2:=by simpa using e
   rw [if_pos e,if_pos e]
  .have e:¬s=2:=by simpa using e
   rw [if_neg e,if_neg e]
theorem ZKJ {n:Int} (a:Zu k S h l) {Q:Bool->Hp->Prop} (hq:Q (isBond S n) h):ZA TP 56 [Value.pointer k.p,Value.int .i64 n] cB h Q:=by
 refine c56 ?_;unfold F56;obtain ⟨D,o,w⟩:=a;have hob:=w.ob (o.mem (by simp));obtain ⟨dB,dP,dK,cF,cQ,cA,cD,cO,cT,ks,cs,oc,wB,wP,wK,wF,wQ,wA,wD,wO,wT,wb⟩:=w;have e:k.sk.len=S.books.length:=by rw [<-wb.1]; exact wK.1
 unfold isBond at hq;refine ZJ (λh0=>?_) λh0=>?_
 .dsimp only [ZR,DK.p];refine ZF (cd:=cSl) (x:=k.sk) hob (i:=5) rfl ?_;rw [e];rwa [show decide (0<=n/\n<(S.books.length:Int))=decide (n<(S.books.length:Int)) from decide_eq_decide.2 (by omega)] at hq
 .rwa [decide_eq_false (by omega)] at hq
theorem ZWk {x:Bond} {how price qty:Int} (ht:x.Tick≠0) (hl:x.Lot≠0) {Q:Int→Hp→Prop} (hq:Q (ZPv x how price qty) h):ZA TP 277 [ZAB.enc x,Value.int .i64 how,Value.int .i64 price,Value.int .i64 qty] (cI .i64) h Q:=by
 refine c277 ?_;unfold F277;unfold ZPv at hq;refine ZD (λe=>?_) λe=>?_
 .rw [if_pos (by simpa using e)] at hq;exact ZN2 ht hl hq
 .rw [if_neg (by simpa using e)] at hq;refine ZD (λe=>?_) λe=>?_
  .rwa [if_pos (by simpa using e)] at hq
  .rw [if_neg (by simpa using e)] at hq;refine ZD (λe=>?_) λe=>?_
   .rwa [if_pos e] at hq
   .rw [if_neg (by rw [e]; simp)] at hq;exact ZRl hl hq
end
def ZAo (m:Int) (l:List ZE):Prop:=ZDR l/\ZFe l/\l.length<=64/\∀ x∈l,x.Seq<=m/\0<=x.Owner/\x.Owner<8
def ZLR (f:ZH5):Prop:=1<=f.Price/\f.Price<=1000000/\0<=f.Qty/\f.Qty<=1000000/\0<=f.MakerParty/\f.MakerParty<8
theorem ZAo.mono {m m':Int} {l:List ZE} (h:ZAo m l) (hm:m<=m'):ZAo m' l:=⟨h.1,h.2.1,h.2.2.1,λx hx=>by have:=h.2.2.2 x hx; omega⟩
theorem ZAo.sub {m:Int} {l l':List ZE} (h:ZAo m l) (hs:l'.Sublist l):ZAo m l':=
 ⟨h.1.sublist (hs.map _),λx hx=>h.2.1 x (hs.subset hx),Nat.le_trans hs.length_le h.2.2.1,λx hx=>h.2.2.2 x (hs.subset hx)⟩
theorem Zy (l:List ZE) (id:Int):(ZBC l id).Sublist l:=List.eraseP_sublist
theorem ZCB (l:List ZE) (id left:Int):(ZDD l id left).1=l∨∃ i o,l[i]?=some o∧o.ID=id∧1≤left∧left≤o.Left∧(ZDD l id left).1=l.set i (ZAS o left):=by
 unfold ZDD;cases hf:l.findIdx? λo=>o.ID==id with
 | none=>exact .inl rfl
 | some i=>
   obtain ⟨o,ho,_,he,_⟩:=ZAk hf;dsimp only;rw [ho];dsimp only;split
   .exact .inl rfl
   .exact .inr ⟨i,o,ho,by simpa using he,by omega,by omega,rfl⟩
theorem ZAo.less {m:Int} {l:List ZE} (h:ZAo m l) (id left:Int):ZAo m (ZDD l id left).1:=by
 rcases ZCB l id left with e|⟨i,o,ho,_,h1,h2,e⟩
 .rw [e]; exact h
 .rw [e];have hm:=List.mem_of_getElem? ho;have hlt:=(List.getElem?_eq_some_iff.1 ho).1;have e2:(l.set i (ZAS o left)).map (λx=>x.Seq)=l.map λx=>x.Seq:=by
   rw [List.map_set];have:(ZAS o left).Seq=(l.map λx=>x.Seq)[i]'(by simpa using hlt):=by rw [List.getElem_map,(List.getElem?_eq_some_iff.1 ho).2]; rfl
   rw [this,List.set_getElem_self]
  refine ⟨by unfold ZDR; rw [e2]; exact h.1,λx hx=>?_,by rw [List.length_set]; exact h.2.2.1,λx hx=>?_⟩
  .rcases List.mem_or_eq_of_mem_set hx with hx|hx
   .exact h.2.1 x hx
   .have:=h.2.1 o hm;subst hx;exact ⟨h1,by show left<=_; omega,this.2.2⟩
  .rcases List.mem_or_eq_of_mem_set hx with hx|hx
   .exact h.2.2.2 x hx
   .subst hx;exact h.2.2.2 o hm
theorem ZAo.add {m:Int} {l:List ZE} {o:ZE} (h:ZAo m l) (h1:o.Seq≤m) (h2:0≤o.Owner∧o.Owner<8):ZAo m (ZLu l o).1:=by
 unfold ZLu;split
 .exact h
 ·rename_i hn;split
  .exact h
  .rename_i hl;have hb:Zn o=true:=by
    cases e:Zn o with
    | true=>rfl
    | false=>exact absurd (.inl e) hn
   have ha:l.any (λx=>x.ID==o.ID||x.Seq==o.Seq)=false:=by
    cases e:l.any λx=>x.ID==o.ID||x.Seq==o.Seq with
    | false=>rfl
    | true=>exact absurd (.inr e) hn
   have ha:=List.any_eq_false.1 ha;unfold Zn at hb;simp only [Bool.and_eq_true,decide_eq_true_eq] at hb;refine ⟨?_,λx hx=>?_,by simp; omega,λx hx=>?_⟩
   .unfold ZDR;rw [List.map_append,List.nodup_append];refine ⟨h.1,by simp,λa ha1 b hb1=>?_⟩;simp only [List.map_cons,List.map_nil,List.mem_singleton] at hb1;subst hb1;obtain ⟨x,hx,rfl⟩:=List.mem_map.1 ha1;have:=ha x hx;simp only [Bool.or_eq_true,beq_iff_eq,not_or] at this;exact this.2
   .rcases List.mem_append.1 hx with hx|hx
    .exact h.2.1 x hx
    .simp only [List.mem_singleton] at hx;subst hx;exact ⟨hb.2.2.2.2.1,hb.2.2.2.2.2.1,hb.2.2.1,hb.2.2.2.1⟩
   .rcases List.mem_append.1 hx with hx|hx
    .exact h.2.2.2 x hx
    .simp only [List.mem_singleton] at hx;subst hx;exact ⟨h1,h2⟩
def ZF6 (m:Int) (o:ZE) (n:Nat) (c:ZB5):Prop:=
 ZAo m c.l/\(∀ f∈c.fills,ZLR f)/\c.fills.length<=n/\c.gone.length<=n/\0<=c.o.Left/\c.o.Left<=1000000/\c.o.Seq=o.Seq/\c.o.Owner=o.Owner/\c.o.ID=o.ID/\c.o.Side=o.Side/\c.o.Price=o.Price
theorem ZF6.meet {m:Int} {o x:ZE} {n:Nat} {c:ZB5} (h:ZF6 m o n c) (hx:1≤x.Left∧x.Left≤1000000∧1≤x.Price∧x.Price≤1000000) (hw:0≤x.Owner∧x.Owner<8):ZF6 m o (n+1) (Zi c x):=by
 obtain ⟨h1,h2,h3,h4,h5,h6,h7⟩:=h;have hsame:=ZGM c x;have hleft:=ZER (c:=c) (x:=x) ⟨h5,h6⟩ (by omega);have hlen:=ZKr c x;refine ⟨?_,?_,by omega,by omega,hleft.1,hleft.2,by rw [hsame.2.1,h7.1],by rw [hsame.2.2.1,h7.2.1],by rw [hsame.1,h7.2.2.1],by rw [hsame.2.2.2.1,h7.2.2.2.1],by rw [hsame.2.2.2.2,h7.2.2.2.2]⟩
 ·unfold Zi;split
  .exact h1
  .split
   .exact h1.sub (Zy _ _)
   .dsimp only;split
    .exact h1.sub (Zy _ _)
    .exact h1.less _ _
 ·unfold Zi;split
  .exact h2
  .split
   .exact h2
   .dsimp only;intro f hf;rcases List.mem_append.1 hf with hf|hf
    .exact h2 f hf
    .simp only [List.mem_singleton] at hf;subst hf;unfold ZLR ZEt;dsimp only;omega
theorem ZT6 {m:Int} {l:List ZE} {o:ZE} {how:Int} (h:ZAo m l) (ho:0≤o.Left∧o.Left≤1000000):ZF6 m o 64 (ZAJ l o how):=by
 unfold ZAJ;have hm:∀ y∈ZBu l o how,y∈l:=λy hy=>ZCD hy;have hl:=ZFx (xs:=l) o how;have hle:=h.2.2.1
 have key:∀ (ms:List ZE) (n:Nat) (c:ZB5),(∀ y∈ms,y∈l)→ZF6 m o n c→ZF6 m o (n+ms.length) (ms.foldl Zi c):=by
  intro ms;induction ms with
  | nil=>intro n c _ hc; exact hc
  | cons x ms ih=>
    intro n c hms hc;have hx:=hms x (by simp);have:=ih (n+1) (Zi c x) (λy hy=>hms y (by simp [hy])) (hc.meet (h.2.1 x hx) (h.2.2.2 x hx).2);rw [List.length_cons,show n+(ms.length+1)=n+1+ms.length by omega];exact this
 have:=key (ZBu l o how) 0 ⟨l,o,[],[]⟩ hm ⟨h,by simp,Nat.le_refl _,Nat.le_refl _,ho.1,ho.2,rfl,rfl,rfl,rfl,rfl⟩;obtain ⟨a1,a2,a3,a4,a5⟩:=this;exact ⟨a1,a2,by omega,by omega,a5⟩
theorem ZFw {l:List ZE} {o:ZE} {how:Int} (h:ZBW l o how=0):1<=o.Left/\o.Left<=1000000:=by
 unfold ZBW at h;split at h
 .cases h
 .rename_i hn;have hn:ZC6 l o how=true:=by cases hb:ZC6 l o how with|true=>rfl|false=>exact absurd hb hn
  unfold ZC6 at hn;split at hn
  .cases hn
  split at hn
  .cases hn
  split at hn
  .cases hn
  have hb:Zn (ZBO o how)=true:=hn;have hl2:(ZBO o how).Left=o.Left:=by unfold ZBO; split<;>rfl
  unfold Zn at hb;simp only [Bool.and_eq_true,decide_eq_true_eq] at hb;rw [hl2] at hb;exact ⟨hb.2.2.2.2.1,hb.2.2.2.2.2.1⟩
theorem ZOX {m:Int} {l:List ZE} {o:ZE} {how:Int} (h:ZAo m l) (hs:o.Seq=m+1) (hw:0<=o.Owner/\o.Owner<8):
 ZAo (m+1) (doV l o how).1/\(∀ f∈(doV l o how).2.1,ZLR f)/\(doV l o how).2.1.length<=64/\(doV l o how).2.2.1.length<=64/\((doV l o how).2.2.2.2≠0->(doV l o how).1=l):=by
 unfold doV;by_cases e:ZBW l o how≠0
 .rw [if_pos e];exact ⟨h.mono (by omega),by simp,Nat.zero_le _,Nat.zero_le _,λ_=>rfl⟩
 .rw [if_neg e];have hl:=ZFw (Classical.not_not.1 e);obtain ⟨c1,c2,c3,c4,c5,c6,c7,c8,_⟩:=ZT6 (how:=how) h ⟨by omega,hl.2⟩;refine ⟨?_,c2,c3,c4,λh=>absurd rfl h⟩;dsimp only;split
  .exact (c1.mono (by omega)).add (by rw [c7,hs]; omega) (by rw [c8]; exact hw)
  .exact c1.mono (by omega)
structure WOk (N:Nat) (S:DS):Prop where
 bonds:∀ b∈S.bonds,1<=b.Tick/\1<=b.Lot/\1<=b.Low/\b.High<=1000000/\1<=b.Min/\b.Max<=1000000
 bl:S.books.length=S.bonds.length
 bl4:S.books.length<=4
 books:∀ b∈S.books,ZAo S.seq b
 pl:S.parties.length<=8
 qs:Srt Za.ID S.quotes
 qi:∀ q∈S.quotes,q.ID<=S.quote/\1<=q.Price/\q.Price<=1000000/\0<=q.Dealer/\q.Dealer<8
 sa:Srt Ask.ID S.asks
 ai:∀ a∈S.asks,a.ID<=S.ask/\1<=a.ID/\0<=a.Bond/\a.Bond<S.books.length/\1<=a.Qty/\a.Qty<=1000000/\0<=a.Client/\a.Client<8
 c1:0<=S.order/\S.order<=N
 c2:0<=S.seq/\S.seq<=N
 c3:0<=S.quote/\S.quote<=N
 c4:0<=S.ask/\S.ask<=N
 l1:S.quotes.length<=N
 l2:S.asks.length<=N
 l3:S.due<=2*N
 l4:S.trades.length<=64*N
 now:I64 S.now
theorem ZA6 {S:DS} {n:Int} (h:isBond S n=true) (hl:S.books.length=S.bonds.length):ZAY S n∈S.bonds/\0<=n/\n<S.books.length/\S.bonds[n.toNat]?=some (ZAY S n):=by
 unfold isBond at h;have h:=of_decide_eq_true h;have hlt:n.toNat<S.bonds.length:=by omega
 unfold ZAY;rw [List.getElem?_eq_getElem hlt];exact ⟨List.getElem_mem hlt,h.1,h.2,rfl⟩
theorem ZAc {S:DS} {n:Int} (h:0<=n/\n<S.books.length):Zc S n=S.books[n.toNat]'(by omega):=by unfold Zc;rw [List.getElem?_eq_getElem (by omega)];rfl
theorem ZBS {N:Nat} {S:DS} (i:WOk N S) {n:Int} (h:0<=n/\n<S.books.length):ZAo S.seq (Zc S n):=by rw [ZAc h];exact i.books _ (List.getElem_mem _)
theorem ZJd (who:Int):∀ (gs:List ZOs) (c:DC),(gs.foldl (ZB3 who) c).d=c.d/\(gs.foldl (ZB3 who) c).id=c.id
 | [],c=>⟨rfl,rfl⟩
 | g::gs,c=>ZJd who gs (ZB3 who c g)
theorem ZQ1 {who:Int} (n:Int) (o:ZE):∀ (fs:List ZH5) (st:DC×Int),(fs.foldl (ZBm who n o) st).1.d={st.1.d with trades:=(fs.foldl (ZBm who n o) st).1.d.trades}/\(fs.foldl (ZBm who n o) st).1.id=st.1.id
 | [],st=>⟨rfl,rfl⟩
 | f::fs,st=>by have h:=ZQ1 (who:=who) n o fs (ZBm who n o st f);rw [List.foldl_cons];exact ⟨h.1,h.2⟩
theorem ZRQ {who:Int} (n:Int) (o:ZE):∀ (fs:List ZH5) (st:DC×Int),(fs.foldl (ZBm who n o) st).1.d.trades.length=st.1.d.trades.length+fs.length
 | [],st=>rfl
 | f::fs,st=>by rw [List.foldl_cons,ZRQ n o fs];simp [ZBm,ZE2,ZBQ];omega
def ZGN (c:DC) (n:Int) (o:ZE) (how:Int):List ZE×List ZH5×List ZOs×Int×Int:=doV (Zc c.d n) (ZDv c o) how
theorem ZBp (c:DC) (who n:Int) (o:ZE) (how:Int):(Zt c who n o how).1.d={c.d with books:=c.d.books.set n.toNat (ZGN c n o how).1,seq:=if (Zt c who n o how).2=0 then c.d.seq+1 else c.d.seq,trades:=(Zt c who n o how).1.d.trades}∧
 (Zt c who n o how).1.id=c.id/\(Zt c who n o how).2=(ZGN c n o how).2.2.2.2:=by
 unfold Zt;unfold ZGN;generalize doV (Zc c.d n) (ZDv c o) how=r;by_cases he:r.2.2.2.2≠0
 .rw [if_pos he,if_neg he];exact ⟨rfl,rfl,rfl⟩
 .rw [if_neg he];have he:r.2.2.2.2=0:=Classical.not_not.1 he;have hd:=ZQ1 (who:=who) n o r.2.1 ((r.2.2.1.foldl (ZB3 who) (ZH7 c n r.1),o.Left));have hg:=ZJd who r.2.2.1 (ZH7 c n r.1);dsimp only at hd;rw [hg.1,hg.2] at hd;generalize r.2.1.foldl (ZBm who n o) ((r.2.2.1.foldl (ZB3 who) (ZH7 c n r.1),o.Left))=st at hd;refine ⟨?_,?_,he.symm⟩
  .simp only [if_true];split
   .show st.1.d=_;rw [hd.1]; rfl
   .rw [hd.1]; rfl
  .dsimp only;split
   .exact hd.2
   .exact hd.2
theorem ZUI (c:DC) (who n:Int) (o:ZE) (how:Int) (h:(ZGN c n o how).2.1.length<=64):(Zt c who n o how).1.d.trades.length<=c.d.trades.length+64:=by
 unfold Zt;unfold ZGN at h;generalize doV (Zc c.d n) (ZDv c o) how=r at h;by_cases he:r.2.2.2.2≠0
 .rw [if_pos he];show c.d.trades.length<=_;omega
 .rw [if_neg he];have hd:=ZRQ (who:=who) n o r.2.1 ((r.2.2.1.foldl (ZB3 who) (ZH7 c n r.1),o.Left));have hg:=ZJd who r.2.2.1 (ZH7 c n r.1);dsimp only at hd;rw [hg.1] at hd;have hm:(ZH7 c n r.1).d.trades=c.d.trades:=rfl;rw [hm] at hd;generalize r.2.1.foldl (ZBm who n o) ((r.2.2.1.foldl (ZB3 who) (ZH7 c n r.1),o.Left))=st at hd ⊢;dsimp only;split
  .show st.1.d.trades.length<=_;omega
  .omega
theorem WOk.mono {N N':Nat} {S:DS} (h:WOk N S) (hN:N<=N'):WOk N' S:=
 {h with c1:=by have:=h.c1; omega,c2:=by have:=h.c2; omega,c3:=by have:=h.c3; omega,c4:=by have:=h.c4; omega,l1:=by have:=h.l1; omega,l2:=by have:=h.l2; omega,l3:=by have:=h.l3; omega,l4:=by have:=h.l4; omega}
theorem WOk.book {N:Nat} {S:DS} (h:WOk N S) {n:Nat} {x:List ZE} (hx:ZAo S.seq x):WOk N {S with books:=S.books.set n x}:=
 {h with
  bl:=by rw [List.length_set]; exact h.bl
  bl4:=by rw [List.length_set]; exact h.bl4
  books:=λb hb=>(List.mem_or_eq_of_mem_set hb).elim (h.books b) λe=>by subst e; exact hx
  ai:=λa ha=>by rw [List.length_set]; exact h.ai a ha}
theorem WOk.meets {N:Nat} {c:DC} (h:WOk N c.d) {who n how:Int} {o:ZE} (hn:0≤n∧n<c.d.books.length) (hw:0≤o.Owner∧o.Owner<8):WOk (N+1) (Zt c who n o how).1.d:=by
 have hbk:=ZBS h hn;have hdo:=ZOX (o:=ZDv c o) (how:=how) hbk rfl hw;obtain ⟨e1,_,e3⟩:=ZBp c who n o how;have ht:=ZUI c who n o how hdo.2.2.1;have h4:=h.l4;have h2:=h.c2;generalize Zt c who n o how=r at*;rw [e1];by_cases he:r.2=0
 .rw [if_pos he];exact {h.mono (Nat.le_succ N) with
   bl:=by rw [List.length_set]; exact h.bl
   bl4:=by rw [List.length_set]; exact h.bl4
   books:=λb hb=>(List.mem_or_eq_of_mem_set hb).elim (λhb=>(h.books b hb).mono (by dsimp only; omega)) λe=>by subst e; exact hdo.1
   ai:=λa ha=>by rw [List.length_set]; exact h.ai a ha
   c2:=by dsimp only; omega
   l4:=by dsimp only; omega}
 .rw [if_neg he];exact {h.mono (Nat.le_succ N) with
   bl:=by rw [List.length_set]; exact h.bl
   bl4:=by rw [List.length_set]; exact h.bl4
   books:=λb hb=>(List.mem_or_eq_of_mem_set hb).elim (h.books b) λe=>by rw [e];rw [e3] at he;have:=hdo.2.2.2.2 he;show ZAo c.d.seq (doV (Zc c.d n) (ZDv c o) how).1;rw [this];exact hbk
   ai:=λa ha=>by rw [List.length_set]; exact h.ai a ha
   l4:=by dsimp only; omega}
theorem WOk.quotes' {N:Nat} {S:DS} (h:WOk N S) {xs:List Za} (hs:Srt Za.ID xs) (hm:∀ q∈xs,∃ q0∈S.quotes,q0.ID=q.ID/\q0.Price=q.Price/\q0.Dealer=q.Dealer) (hl:xs.length<=S.quotes.length):WOk N {S with quotes:=xs}:=
 {h with
  qs:=hs
  qi:=λq hq=>by obtain ⟨q0,h0,e1,e2,e3⟩:=hm q hq;have:=h.qi q0 h0;rw [e1,e2,e3] at this;exact this
  l1:=Nat.le_trans hl h.l1}
theorem WOk.asks' {N:Nat} {S:DS} (h:WOk N S) {xs:List Ask} (hs:Srt Ask.ID xs) (hm:∀ q∈xs,∃ q0∈S.asks,q0.ID=q.ID/\q0.Bond=q.Bond/\q0.Qty=q.Qty/\q0.Client=q.Client) (hl:xs.length<=S.asks.length):WOk N {S with asks:=xs}:=
 {h with
  sa:=hs
  ai:=λq hq=>by obtain ⟨q0,h0,e1,e2,e3,e4⟩:=hm q hq;have:=h.ai q0 h0;rw [e1,e2,e3,e4] at this;exact this
  l2:=Nat.le_trans hl h.l2}
theorem ZH0 {α:Type} {key:α->Int} {id:Int} {f:α->α} {xs:List α} {y:α} (h:y∈upd key id f xs):∃ x∈xs,y=x\/(key x=id/\y=f x):=by
 unfold upd at h;obtain ⟨x,hx,rfl⟩:=List.mem_map.1 h;refine ⟨x,hx,?_⟩;by_cases e:key x=id
 .rw [if_pos e]; exact .inr ⟨e,rfl⟩
 .rw [if_neg e]; exact .inl rfl
theorem WOk.kill {N:Nat} {S:DS} (h:WOk N S) (id:Int):WOk N {S with quotes:=killQ S.quotes id}:=
 h.quotes' (h.qs.upd id λ_=>rfl) (λq hq=>by
  obtain ⟨x,hx,rfl|⟨_,rfl⟩⟩:=ZH0 hq
  .exact ⟨q,hx,rfl,rfl,rfl⟩
  .exact ⟨x,hx,rfl,rfl,rfl⟩) (by rw [killQ,ZTE]; exact Nat.le_refl _)
theorem WOk.clear {N:Nat} {S:DS} (h:WOk N S) (id:Int):WOk N {S with quotes:=ZIr S.quotes id}:=
 h.quotes' (h.qs.sublist List.filter_sublist) (λq hq=>⟨q,(List.mem_filter.1 hq).1,rfl,rfl,rfl⟩) (List.length_filter_le _ _)
theorem WOk.updA {N:Nat} {S:DS} (h:WOk N S) (id:Int) {f:Ask->Ask} (hf:∀ x,(f x).ID=x.ID/\(f x).Bond=x.Bond/\(f x).Qty=x.Qty/\(f x).Client=x.Client):WOk N {S with asks:=upd Ask.ID id f S.asks}:=
 h.asks' (h.sa.upd id λx=>(hf x).1) (λq hq=>by
  obtain ⟨x,hx,rfl|⟨_,rfl⟩⟩:=ZH0 hq
  .exact ⟨q,hx,rfl,rfl,rfl,rfl⟩
  .exact ⟨x,hx,(hf x).1.symm,(hf x).2.1.symm,(hf x).2.2.1.symm,(hf x).2.2.2.symm⟩) (by rw [ZTE]; exact Nat.le_refl _)
theorem ZHU (xs:List Ask) (id q u:Int):(ZDX xs id q u).1=xs∨(ZDX xs id q u).1=upd Ask.ID id (ZXh q u) xs:=by
 unfold ZDX;split
 .exact .inl rfl
 .split
  .exact .inl rfl
  .split
   .exact .inl rfl
   .exact .inr rfl
theorem ZE3 (xs:List Ask) (id:Int):(ZGl xs id).1=xs\/(ZGl xs id).1=upd Ask.ID id ZXs xs:=by
 unfold ZGl;split
 .exact .inl rfl
 .split
  .exact .inl rfl
  .exact .inr rfl
theorem ZGI (xs:List Ask) (id st:Int):(ZRe xs id st).1=xs∨(ZRe xs id st).1=upd Ask.ID id (ZXP st) xs:=by
 unfold ZRe;split
 .exact .inl rfl
 .split
  .exact .inl rfl
  .split
   .exact .inl rfl
   .exact .inr rfl
theorem WOk.look {N:Nat} {S:DS} (h:WOk N S) (id q u:Int):WOk N {S with asks:=(ZDX S.asks id q u).1}:=by
 rcases ZHU S.asks id q u with e|e<;>rw [e]
 .exact h
 .exact h.updA id λx=>⟨rfl,rfl,rfl,rfl⟩
theorem WOk.back {N:Nat} {S:DS} (h:WOk N S) (id:Int):WOk N {S with asks:=(ZGl S.asks id).1}:=by
 rcases ZE3 S.asks id with e|e<;>rw [e]
 .exact h
 .exact h.updA id λx=>⟨rfl,rfl,rfl,rfl⟩
theorem WOk.end {N:Nat} {S:DS} (h:WOk N S) (id st:Int):WOk N {S with asks:=(ZRe S.asks id st).1}:=by
 rcases ZGI S.asks id st with e|e<;>rw [e]
 .exact h
 .exact h.updA id λx=>⟨rfl,rfl,rfl,rfl⟩
theorem WOk.due1 {N:Nat} {S:DS} (h:WOk N S):WOk (N+1) {S with due:=S.due+1}:={h.mono (Nat.le_succ N) with l3:=by have:=h.l3; dsimp only; omega}
theorem WOk.used {N:Nat} {S:DS} (h:WOk N S) (us:List Int):WOk N {S with used:=us}:={h with}
theorem WOk.trade1 {N:Nat} {S:DS} (h:WOk N S) (t:ZAr):WOk (N+1) {S with trades:=S.trades++[t]}:={h.mono (Nat.le_succ N) with l4:=by have:=h.l4; rw [List.length_append]; simp; omega}
theorem ZSJ {xs:List Ask} {a:Ask} (h:(ZIg xs a).2≠0):(ZIg xs a).1=xs:=by
 unfold ZIg at*;split
 .rfl
 .rename_i h1;rw [if_neg h1] at h;split
  .rfl
  .rename_i h2;rw [if_neg h2] at h;exact absurd rfl h
theorem ZSf {xs:List Za} {q:Za} (h:(ZIT xs q).2≠0):(ZIT xs q).1=xs:=by
 unfold ZIT at*;split
 .rfl
 .rename_i h1;rw [if_neg h1] at h;exact absurd rfl h
theorem ZO6 {xs:List Ask} {id q u:Int} (h:(ZDX xs id q u).2≠0):(ZDX xs id q u).1=xs:=by
 unfold ZDX at*;split
 .rfl
 .rename_i x hx;rw [hx] at h;dsimp only at h;split
  .rfl
  .rename_i h1;rw [if_neg h1] at h;split
   .rfl
   .rename_i h2;rw [if_neg h2] at h;exact absurd rfl h
theorem ZRi {ps:List ZAa} {us:List Int} {w p q:Int} (h:(ZJx ps us w p q).2≠0):(ZJx ps us w p q).1=us:=by
 unfold ZJx at*;split
 .rename_i h1;rw [if_pos h1] at h;exact absurd rfl h
 .rfl
theorem ZDp {xs:List Ask} {id:Int} {a:Ask} (h:getA xs id=some a):a∈xs/\a.ID=id:=⟨List.mem_of_find?_eq_some h,by have:=List.find?_some h; simpa using this⟩
theorem ZJu {xs:List Za} {id:Int} {a:Za} (h:getQ xs id=some a):a∈xs/\a.ID=id:=⟨List.mem_of_find?_eq_some h,by have:=List.find?_some h; simpa using this⟩
section
variable {k:DK} {S:DS} {b:Nat} {who:Int} {c:DC} {h:Hp} {l:List Hp} {N:Nat}
theorem Zu.setSeq (a:Zu k S h l) {v:Int} {K:Hp->Prop} (hK:∀ h',Zu k {S with seq:=v} h' l->K h'):ZV (cI .i64) ⟨k.b,13,none⟩ v h K:=by obtain ⟨R,o,cl⟩:=a.nums;exact ZZ (cd:=cI .i64) (i:=13) (x:=v) (vs':=ZAK k {S with seq:=v}) o rfl rfl (by show 13+1<=16; omega) λh2 o2=>hK h2 (cl h2 l S.now S.order v S.quote S.ask o2)
theorem Zu.setOrder (a:Zu k S h l) {v:Int} {K:Hp->Prop} (hK:∀ h',Zu k {S with order:=v} h' l->K h'):ZV (cI .i64) ⟨k.b,12,none⟩ v h K:=by obtain ⟨R,o,cl⟩:=a.nums;exact ZZ (cd:=cI .i64) (i:=12) (x:=v) (vs':=ZAK k {S with order:=v}) o rfl rfl (by show 12+1<=16; omega) λh2 o2=>hK h2 (cl h2 l S.now v S.seq S.quote S.ask o2)
theorem Zu.setQuote (a:Zu k S h l) {v:Int} {K:Hp->Prop} (hK:∀ h',Zu k {S with quote:=v} h' l->K h'):ZV (cI .i64) ⟨k.b,14,none⟩ v h K:=by obtain ⟨R,o,cl⟩:=a.nums;exact ZZ (cd:=cI .i64) (i:=14) (x:=v) (vs':=ZAK k {S with quote:=v}) o rfl rfl (by show 14+1<=16; omega) λh2 o2=>hK h2 (cl h2 l S.now S.order S.seq v S.ask o2)
theorem Zu.setAsk (a:Zu k S h l) {v:Int} {K:Hp->Prop} (hK:∀ h',Zu k {S with ask:=v} h' l->K h'):ZV (cI .i64) ⟨k.b,15,none⟩ v h K:=by obtain ⟨R,o,cl⟩:=a.nums;exact ZZ (cd:=cI .i64) (i:=15) (x:=v) (vs':=ZAK k {S with ask:=v}) o rfl rfl (by show 15+1<=16; omega) λh2 o2=>hK h2 (cl h2 l S.now S.order S.seq S.quote v o2)
theorem Zu.setNow (a:Zu k S h l) {v:Int} {K:Hp->Prop} (hK:∀ h',Zu k {S with now:=v} h' l->K h'):ZV (cI .i64) ⟨k.b,4,none⟩ v h K:=by obtain ⟨R,o,cl⟩:=a.nums;exact ZZ (cd:=cI .i64) (i:=4) (x:=v) (vs':=ZAK k {S with now:=v}) o rfl rfl (by show 4+1<=16; omega) λh2 o2=>hK h2 (cl h2 l v S.order S.seq S.quote S.ask o2)
theorem Has.setSeq (a:Has k b who c h l) {v:Int} {K:Hp->Prop} (hK:∀ h',Has k b who {c with d:={c.d with seq:=v}} h' l->K h'):ZV (cI .i64) ⟨k.b,13,none⟩ v h K:=by obtain ⟨C,wc,a⟩:=a;exact a.setSeq λh' a'=>hK h' ⟨C,wc,a'⟩
theorem Has.setOrder (a:Has k b who c h l) {v:Int} {K:Hp->Prop} (hK:∀ h',Has k b who {c with d:={c.d with order:=v}} h' l->K h'):ZV (cI .i64) ⟨k.b,12,none⟩ v h K:=by obtain ⟨C,wc,a⟩:=a;exact a.setOrder λh' a'=>hK h' ⟨C,wc,a'⟩
theorem Has.setQuote (a:Has k b who c h l) {v:Int} {K:Hp->Prop} (hK:∀ h',Has k b who {c with d:={c.d with quote:=v}} h' l->K h'):ZV (cI .i64) ⟨k.b,14,none⟩ v h K:=by obtain ⟨C,wc,a⟩:=a;exact a.setQuote λh' a'=>hK h' ⟨C,wc,a'⟩
theorem Has.setAsk (a:Has k b who c h l) {v:Int} {K:Hp->Prop} (hK:∀ h',Has k b who {c with d:={c.d with ask:=v}} h' l->K h'):ZV (cI .i64) ⟨k.b,15,none⟩ v h K:=by obtain ⟨C,wc,a⟩:=a;exact a.setAsk λh' a'=>hK h' ⟨C,wc,a'⟩
theorem ZBv {to kind:Int} {ns:List Int} (a:Has k b who c h l) (hn:ns.length<=6) (hl:c.outs.length<=1000000) {Q:PUnit->Hp->Prop} (hq:∀ h',Has k b who (ZBQ c to kind ns) h' l->Q ⟨⟩ h'):
 ZM (.cells (ZG (cI .i64) ns).toArray 2 (0,0)) h λk1 h1=>ZA TP 86 [Value.pointer (some ⟨b,0,none⟩),Value.int .i64 to,Value.int .i64 kind,Value.slice (some ⟨k1,0,none⟩) ns.length ns.length] (ZW []) h1 Q:=
 a.new λk1 h1 a1=>ZUA (s:=⟨some ⟨k1,0,none⟩,ns.length,ns.length⟩) (g:=Go.Eng.ob k1 (ZG (cI .i64) ns) 2) a1 (Ze rfl rfl) (by simp) hn hl λh2 a2=>hq h2 a2.drop
theorem ZFp (who:Int):∀ (gs:List ZOs) (c:DC),(gs.foldl (ZB3 who) c).outs.length=c.outs.length+gs.length/\(gs.foldl (ZB3 who) c).d=c.d
 | [],c=>⟨rfl,rfl⟩
 | g::gs,c=>by have:=ZFp who gs (ZB3 who c g);refine ⟨?_,this.2⟩;rw [List.foldl_cons,this.1];simp [ZB3,ZBQ];omega
theorem ZFj (n:Int) (o:ZE):∀ (fs:List ZH5) (st:DC×Int),(fs.foldl (ZBm who n o) st).1.outs.length=st.1.outs.length+4*fs.length∧(fs.foldl (ZBm who n o) st).1.d.trades.length=st.1.d.trades.length+fs.length∧(fs.foldl (ZBm who n o) st).1.d.now=st.1.d.now
 | [],c=>⟨rfl,rfl,rfl⟩
 | f::fs,st=>by
   have:=ZFj n o fs (ZBm who n o st f);refine ⟨?_,?_,this.2.2⟩
   .rw [List.foldl_cons,this.1];simp [ZBm,ZE2,ZBQ,ZFf];omega
   .rw [List.foldl_cons,this.2.1];simp [ZBm,ZE2,ZBQ];omega
theorem ZLM {n how:Int} {o:ZE} (a:Has k b who c h l) (i:WOk N c.d) (hN:N≤10000) (hn:0≤n∧n<c.d.books.length) (hw:0≤who∧who<8) (how8:0≤o.Owner∧o.Owner<8) (ho:c.outs.length≤500000)
 {Q:Int->Hp->Prop} (hq:∀ h',Has k b who (Zt c who n o how).1 h' l->Q (Zt c who n o how).2 h'):
 ZA TP 278 [Value.pointer k.p,Value.pointer (some ⟨b,0,none⟩),Value.int .i64 n,ZK.enc o,Value.int .i64 how] (cI .i64) h Q:=by
 refine c278 ?_;unfold F278;have hc2:=i.c2;have hl4:=i.l4;have hbk:=ZBS i hn;have hdo:=ZOX (o:=ZDv c o) (how:=how) hbk rfl how8;have hget:=ZAc hn;obtain ⟨m,rfl⟩:=Int.eq_ofNat_of_zero_le hn.1;have hm:m<c.d.books.length:=by omega
 unfold Zt at hq;refine ZF (cd:=cI .i64) (x:=c.d.seq) a.ob (i:=13) rfl ?_;rw [w64 (by omega) (by omega)];obtain ⟨C,wc,a⟩:=a;obtain ⟨cb,R,q,o1,w1,hld,cl⟩:=a.book hm;refine hld ?_;have hget:Zc c.d ((m:Nat):Int)=c.d.books[m]:=hget;rw [<-hget] at w1;refine ZaT (x:=ZDv c o) (how:=how) o1 w1 hbk.1 hbk.2.1 (by have:=hbk.2.2.1; omega) λsf sg c2 df dg h2 o2 w2 wf wg=>?_;have a2:=cl h2 c2 _ _ (o2.pick [0,3,1,2] 4 (by decide) (by decide)) w2;have a3:Has k b who {c with d:={c.d with books:=c.d.books.set m (doV (Zc c.d ((m:Nat):Int)) (ZDv c o) how).1}} h2 (df::dg::l):=
  ⟨C,wc,a2.perm ((List.Perm.swap _ _ _ |>.cons _).trans (List.Perm.swap _ _ _))⟩
 unfold ZH7 ZA7 at hq;simp only [Int.toNat_natCast] at hq;generalize doV (Zc c.d ((m:Nat):Int)) (ZDv c o) how=r at hq wf wg a3 hdo;obtain ⟨xs,fs,gs,left,e⟩:=r;dsimp only at hq wf wg a3 hdo ⊢;obtain ⟨_,hf,hfl,hgl,_⟩:=hdo;refine ZD (λhe=>?_) λhe=>?_
 .rw [if_pos (by simpa using he)] at hq;exact hq h2 a3.drop.drop
 rw [if_neg (by simpa using he)] at hq;have he:e=0:=by simpa using he
 refine ZF (cd:=cI .i64) (x:=c.d.seq) a3.ob (i:=13) rfl ?_;rw [w64 (by omega) (by omega)];dsimp only [ZR,DK.p];refine a3.setSeq λh4 a4=>?_;have a4:Has k b who {c with d:={c.d with books:=c.d.books.set m xs,seq:=c.d.seq+1}} h4 (df::dg::l):=a4;generalize hcm:({c with d:={c.d with books:=c.d.books.set m xs,seq:=c.d.seq+1}}:DC)=cm at hq a4;have hcm1:cm.outs=c.outs:=by rw [<-hcm]
 have hcm2:cm.d.trades=c.d.trades:=by rw [<-hcm]
 have hcm3:cm.d.now=c.d.now:=by rw [<-hcm]
 have hgn:=wg.1;have hfn:=wf.1;refine Zb (λz h'=>∃ i:Nat,z=(i:Int)/\i<=gs.length/\Has k b who ((gs.take i).foldl (ZB3 who) cm) h' (df::dg::l)) (λz=>gs.length-z.toNat) ⟨0,rfl,Nat.zero_le _,a4⟩ ?_;rintro J z h5 again ⟨j,rfl,hj,a5⟩
 refine ZJ (λhlt=>?_) λhge=>?_
 .have hj':j<gs.length:=by omega
  have a0:gs[j]?=some gs[j]:=List.getElem?_eq_getElem hj';have est:=Z7 (ZB3 who) cm gs a0;have hlen:=(ZFp who (gs.take j) cm).1;rw [List.length_take] at hlen;refine ZL wg.row (Int.natCast_nonneg j) (by omega) λp hp=>ZO wg.row (a5.sub (by simp)) rfl hp (i:=j) a0 (by rfl) ?_;refine a5.ldWho ?_;refine ZBv (ns:=[gs[j].ID,gs[j].Left]) a5 (by simp) (by rw [hlen,hcm1]; omega) λh6 a6=>?_;rw [ZAQ (by omega)];exact again _ _ ⟨j+1,rfl,by omega,by rw [est]; exact a6⟩ (by omega)
 ·have:j=gs.length:=by omega
  subst this;rw [List.take_length] at a5;have hcg:=ZFp who gs cm;generalize gs.foldl (ZB3 who) cm=cg at hq a5 hcg;have hcgo:cg.outs.length<=c.outs.length+64:=by rw [hcg.1,hcm1]; omega
  have hcgt:cg.d.trades.length=c.d.trades.length:=by rw [hcg.2,hcm2]
  have hcgn:cg.d.now=c.d.now:=by rw [hcg.2,hcm3]
  refine Zb (λz h'=>∃ i:Nat,z=(((fs.take i).foldl (ZBm who (m:Int) o) (cg,o.Left)).2,(i:Int))/\i<=fs.length/\Has k b who ((fs.take i).foldl (ZBm who (m:Int) o) (cg,o.Left)).1 h' (df::dg::l)) (λz=>fs.length-z.2.toNat) ⟨0,rfl,Nat.zero_le _,a5⟩ ?_;rintro J2 z h6 again2 ⟨j,rfl,hj,a6⟩;dsimp only;refine ZJ (λhlt=>?_) λhge=>?_
  .have hj':j<fs.length:=by omega
   have a0:fs[j]?=some fs[j]:=List.getElem?_eq_getElem hj';have est:=Z7 (ZBm who (m:Int) o) (cg,o.Left) fs a0;have hfj:=hf fs[j] (List.getElem_mem hj');obtain ⟨hl1,hl2,hl3⟩:=ZFj (who:=who) (m:Int) o (fs.take j) (cg,o.Left);rw [List.length_take] at hl1 hl2;generalize fs[j]=f at a0 est hfj;generalize (fs.take j).foldl (ZBm who (m:Int) o) (cg,o.Left)=st at*;dsimp only at hl1 hl2 hl3;refine ZL wf.row (Int.natCast_nonneg j) (by omega) λp hp=>ZO wf.row (a6.sub (by simp)) rfl hp (i:=j) a0 (by rfl) ?_;refine ZBv (ns:=[f.Maker,f.Price,f.Qty,f.Left]) a6 (by simp) (by omega) λh7 a7=>?_;refine a7.ldWho ?_;refine ZBv (ns:=[o.ID,f.Price,f.Qty,IntKind.i64.wrap (st.2-f.Qty)]) a7 (by simp) (by simp [ZBQ]; omega) λh8 a8=>?_;refine a8.ldWho ?_;have hbl:=i.bl4;refine ZLf (t:=ZMc (m:Int) f) a8 ?_ (by show st.1.d.trades.length<=_; omega) (by simp [ZBQ]; omega) λh9 a9=>?_
   .have hnow:=i.now;have e1:(ZBQ (ZBQ st.1 f.MakerParty 20 [f.Maker,f.Price,f.Qty,f.Left]) who 20 [o.ID,f.Price,f.Qty,IntKind.i64.wrap (st.2-f.Qty)]).d.now=c.d.now:=by show st.1.d.now=_; rw [hl3,hcgn]
    unfold ZLR at hfj;unfold ZCx ZBI ZMc I64;unfold I64 at hnow;rw [e1];dsimp only;refine ⟨by omega,by omega,?_,?_,by omega,by omega,by omega,by omega⟩
    .split<;>omega
    .split<;>omega
   .rw [ZAQ (by omega)];refine again2 _ _ ⟨j+1,?_,by omega,?_⟩ (by dsimp only; omega)
    .rw [est]; rfl
    .rw [est]; exact a9
  ·have:j=fs.length:=by omega
   subst this;rw [List.take_length] at a6;have hcf:=(ZFj (who:=who) (m:Int) o fs (cg,o.Left)).1;generalize fs.foldl (ZBm who (m:Int) o) (cg,o.Left)=st at hq a6 hcf;dsimp only at hcf;refine ZN (λt h'=>h'=h6/\t=decide (how≠0/\how≠3/\0<left)) ?_ λJ3 hJ3=>?_
   .rintro t h' ⟨rfl,rfl⟩;refine ZJ (λhc=>?_) λhc=>?_
    .rw [if_pos hc] at hq;refine a6.ldWho ?_;refine ZBv (ns:=[o.ID,left]) a6 (by simp) (by omega) λh7 a7=>?_;exact hq h7 a7.drop.drop
    .rw [if_neg hc] at hq;exact hq h' a6.drop.drop
   .refine ZD (λe1=>ZD (λe2=>hJ3 _ _ ⟨rfl,?_⟩) λe2=>hJ3 _ _ ⟨rfl,?_⟩) λe1=>hJ3 _ _ ⟨rfl,?_⟩
    .have e1:how≠0:=by simpa using e1
     have e2:how≠3:=by simpa using e2
     exact decide_eq_decide.2 ⟨λh=>⟨e1,e2,h⟩,λh=>h.2.2⟩
    .have e2:how=3:=by simpa using e2
     exact (decide_eq_false λh=>h.2.1 e2).symm
    .have e1:how=0:=by simpa using e1
     exact (decide_eq_false λh=>h.1 e1).symm
end
section
variable {k:DK} {S:DS} {b:Nat} {who:Int} {c:DC} {h:Hp} {l:List Hp} {N:Nat}
theorem Zu.ldBond {n:Int} (a:Zu k S h l) (hb:isBond S n=true) (hl:S.books.length=S.bonds.length) {K:Bond->Prop} (hK:K (ZAY S n)):
 ZC cSl ⟨k.b,0,none⟩ h λs=>Zl s.a s.len n λp=>ZC ZAB (p.add (n.toNat*7)) h K:=by
 obtain ⟨_,h0,h1,hx⟩:=ZA6 hb hl;obtain ⟨D,o,w⟩:=a;obtain ⟨dB,hB,wB⟩:=w.bonds_sub (o.mem (by simp));have hlen:=wB.1;refine ZF (cd:=cSl) (x:=k.sb) (w.ob (o.mem (by simp))) (i:=0) rfl ?_;refine ZL wB.row h0 (by omega) λp hp=>?_;exact ZO wB.row hB rfl hp (i:=n.toNat) hx rfl hK
theorem Zu.ldHalted {n:Int} (a:Zu k S h l) (hb:isBond S n=true) (hl:S.books.length=S.bonds.length) {K:Bool->Prop} (hK:K (ZAY S n).Halted):
 ZC cSl ⟨k.b,0,none⟩ h λs=>Zl s.a s.len n λp=>ZC cB ⟨(p.add (n.toNat*7)).block,(p.add (n.toNat*7)).off+6,none⟩ h K:=by
 obtain ⟨_,h0,h1,hx⟩:=ZA6 hb hl;obtain ⟨D,o,w⟩:=a;obtain ⟨dB,hB,wB⟩:=w.bonds_sub (o.mem (by simp));have hlen:=wB.1;refine ZF (cd:=cSl) (x:=k.sb) (w.ob (o.mem (by simp))) (i:=0) rfl ?_;refine ZL wB.row h0 (by omega) λp hp=>?_;rw [wB.part_at hp];exact Zg (cd:=ZAB) (cf:=cB) wB.row hB rfl hp (i:=n.toNat) hx rfl (k:=6) (y:=(ZAY S n).Halted) rfl hK
theorem Has.ldBond {n:Int} (a:Has k b who c h l) (hb:isBond c.d n=true) (hl:c.d.books.length=c.d.bonds.length) {K:Bond->Prop} (hK:K (ZAY c.d n)):
 ZC cSl ⟨k.b,0,none⟩ h λs=>Zl s.a s.len n λp=>ZC ZAB (p.add (n.toNat*7)) h K:=by
 obtain ⟨C,wc,a⟩:=a;exact a.ldBond hb hl hK
theorem Has.ldHalted {n:Int} (a:Has k b who c h l) (hb:isBond c.d n=true) (hl:c.d.books.length=c.d.bonds.length) {K:Bool->Prop} (hK:K (ZAY c.d n).Halted):
 ZC cSl ⟨k.b,0,none⟩ h λs=>Zl s.a s.len n λp=>ZC cB ⟨(p.add (n.toNat*7)).block,(p.add (n.toNat*7)).off+6,none⟩ h K:=by
 obtain ⟨C,wc,a⟩:=a;exact a.ldHalted hb hl hK
theorem Has.isBond {n:Int} (a:Has k b who c h l) {Q:Bool->Hp->Prop} (hq:Q (Go.Proofs.YtkmniidiifpdgaaGreat.isBond c.d n) h):ZA TP 56 [Value.pointer k.p,Value.int .i64 n] cB h Q:=by obtain ⟨C,wc,a⟩:=a;exact ZKJ a hq
theorem ZBL {n:Int}:isBond S n=true↔0<=n/\n<S.books.length:=decide_eq_true_iff
theorem ZUk {m:Msg} (a:Has k b who c h l) (i:WOk N c.d) (hN:N≤9000) (hw:0≤who∧who<8) (ho:c.outs.length≤500000) {Q:Int→Hp→Prop} (hq:∀ h',Has k b who (ZA4 c who m).1 h' l→Q (ZA4 c who m).2 h'):
 ZA TP 200 [Value.pointer k.p,Value.pointer (some ⟨b,0,none⟩),ZAn.enc m] (cI .i64) h Q:=by
 refine c200 ?_;unfold F200;unfold ZA4 at hq;have hc1:=i.c1;refine ⟨by decide,by decide,by decide,by decide,by decide,by decide,by decide,by decide,by decide,by decide,?_⟩;refine a.isBond (ZD (λe=>?_) λe=>?_)
 .rw [if_pos (by simpa using e)] at hq;exact hq h a
 have e:isBond c.d m.F_0=true:=by simpa using e
 rw [if_neg (by rw [e]; simp)] at hq;refine ZN (λt h'=>h'=h/\t=decide (ZBZ m.F_1=false\/m.F_4<0\/4<m.F_4)) ?_ λJ hJ=>?_
 .rintro t h' ⟨rfl,rfl⟩;refine ZJ (λhc=>?_) λhc=>?_
  .rw [if_pos hc] at hq;exact hq h' a
  rw [if_neg hc] at hq;dsimp only [ZR,DK.p];have hb:=i.bonds _ (ZA6 e i.bl).1;refine a.ldBond e i.bl ?_;refine ZWk (x:=ZAY c.d m.F_0) (by omega) (by omega) ?_;refine ZD (λhf=>?_) λhf=>?_
  .rw [if_pos (by simpa using hf)] at hq;exact hq h' a
  rw [if_neg (by simpa using hf)] at hq;refine ZF (cd:=cI .i64) (x:=c.d.order) a.ob (i:=12) rfl ?_;refine a.ldWho ?_;rw [w64 (by omega) (by omega)];have hd:=ZBp c who m.F_0 (Zs c who m) m.F_4;refine ZLM (o:=Zs c who m) (how:=m.F_4) a i (by omega) (ZBL.1 e) hw hw ho λh4 a4=>?_;generalize Zt c who m.F_0 (Zs c who m) m.F_4=r at hq a4 hd;have hord:r.1.d.order=c.d.order:=by rw [hd.1]
  refine ZD (λe0=>?_) λe0=>?_
  .have e0:r.2=0:=by simpa using e0
   rw [if_pos e0] at hq;rw [e0];refine ZF (cd:=cI .i64) (x:=r.1.d.order) a4.ob (i:=12) rfl ?_;rw [w64 (by omega) (by omega)];refine a4.setOrder λh5 a5=>?_;refine ZF (cd:=cI .i64) (x:=r.1.d.order+1) a5.ob (i:=12) rfl ?_;exact a5.setId λh6 a6=>hq h6 a6
  .rw [if_neg (by simpa using e0)] at hq;exact hq h4 a4
 .refine ZDF (ZD (λe=>hJ _ _ ⟨rfl,?_⟩) λe=>ZJ (λe2=>hJ _ _ ⟨rfl,?_⟩) λe2=>hJ _ _ ⟨rfl,?_⟩)
  .rw [Bool.eq_iff_iff]; simp_all
  .rw [Bool.eq_iff_iff]; simp_all
  .have e:ZBZ m.F_1=true:=by simpa using e
   exact decide_eq_decide.2 (by rw [e]; simp; omega)
theorem ZQG {n:Int} {x:ZE} {price qty:Int} (a:Has k b who c h l) (i:WOk N c.d) (hN:N≤9000) (hw:0≤who∧who<8) (ho:c.outs.length≤500000) (hn:isBond c.d n=true) (hx:0≤x.Owner∧x.Owner<8) {Q:Int→Hp→Prop}
 (hq:∀ h',Has k b who (ZDC c who n x price qty).1 h' l->Q (ZDC c who n x price qty).2 h'):
 ZA TP 204 [Value.pointer k.p,Value.pointer (some ⟨b,0,none⟩),Value.int .i64 n,ZK.enc x,Value.int .i64 price,Value.int .i64 qty] (cI .i64) h Q:=by
 refine c204 ?_;unfold F204;unfold ZDC at hq;dsimp only [ZR,DK.p];have hb:=i.bonds _ (ZA6 hn i.bl).1;have hnn:=ZBL.1 hn;refine a.ldBond hn i.bl ?_;refine ZN2 (b:=ZAY c.d n) (by omega) (by omega) ?_;refine ZD (λhf=>?_) λhf=>?_
 .rw [if_pos (by simpa using hf)] at hq;exact hq h a
 rw [if_neg (by simpa using hf)] at hq;have hbk:=ZBS i hnn;have hget:=ZAc hnn;refine ZN (λt h'=>h'=h/\t=decide (price=x.Price/\qty<=x.Left)) ?_ λJ hJ=>?_
 .rintro t h' ⟨rfl,rfl⟩;obtain ⟨mm,rfl⟩:=Int.eq_ofNat_of_zero_le hnn.1;have hm:mm<c.d.books.length:=by omega
  have hget:Zc c.d ((mm:Nat):Int)=c.d.books[mm]:=hget;obtain ⟨C,wc,a⟩:=a;obtain ⟨cb,R,q,o1,w1,hld,cl⟩:=a.book hm;rw [<-hget] at w1;refine ZJ (λhc=>?_) λhc=>?_
  .rw [if_pos hc] at hq;refine hld ?_;refine ZNl (left:=qty) o1 w1 (by have:=hbk.2.2.1; omega) λc2 h2 o2 w2=>?_;exact hq h2 ⟨C,wc,cl h2 c2 _ _ o2 w2⟩
  .rw [if_neg hc] at hq;refine hld ?_;refine ZFu o1 w1 (by have:=hbk.2.2.1; omega) λc2 h2 o2 w2=>?_;have a2:Has k b who {c with d:=ZA7 c.d (mm:Int) (ZBC (Zc c.d (mm:Int)) x.ID)} h2 l:=⟨C,wc,cl h2 c2 _ _ o2 w2⟩
   refine ZLM (o:=ZGD x price qty) (how:=0) a2 (i.book (hbk.sub (Zy _ _))) (by omega) (by show 0<=_/\_<((List.set _ _ _).length:Int); rw [List.length_set]; exact hnn) hw hx ho λh3 a3=>?_;exact hq h3 a3
 .refine ZD (λe=>hJ _ _ ⟨rfl,?_⟩) λe=>hJ _ _ ⟨rfl,?_⟩
  .have e:price=x.Price:=by simpa using e
   exact decide_eq_decide.2 ⟨λh=>⟨e,h⟩,λh=>h.2⟩
  .have e:¬price=x.Price:=by simpa using e
   exact (decide_eq_false λh=>e h.1).symm
end
section
variable {k:DK} {S:DS} {b:Nat} {who:Int} {c:DC} {h:Hp} {l:List Hp} {N:Nat}
theorem Zu.book2 (a:Zu k S h l) {i:Nat} (hi:i<S.books.length):k.sk.len=S.books.length/\∃ c R q,On h (c::R::l)/\Zk q S.books[i] c/\(∀ {K:Option Addr->Prop},K q->Zl k.sk.a k.sk.len (i:Int) λa=>ZC cP (a.add ((i:Int).toNat*1)) h K)/\
 ∀ h' c' l' x,On h' (c'::R::l')->Zk q x c'->Zu k {S with books:=S.books.set i x} h' l':=by
 obtain ⟨D,o,w⟩:=a;obtain ⟨dB,dP,dK,cF,cQ,cA,cD,cO,cT,ks,cs,oc,wB,wP,wK,wF,wQ,wA,wD,wO,wT,wb⟩:=w;obtain ⟨hb1,hb2,hb3⟩:=wb;have hc:cs[i]?=some cs[i]:=List.getElem?_eq_getElem (by omega);have hk:ks[i]?=some ks[i]:=List.getElem?_eq_getElem (by omega);have hx:S.books[i]?=some S.books[i]:=List.getElem?_eq_getElem hi;obtain ⟨R,o1,_,hcl⟩:=ZP9 o oc (i:=i+10) hc;refine ⟨by rw [<-hb1]; exact wK.1,cs[i],R,ks[i],o1,hb3 i _ _ _ hk hx hc,λ{K} hK=>?_,λh' c' l' x o' w'=>?_⟩
 .have hD:D.sub h:=o.mem (by simp);have:=wK.1;refine ZL wK.row (Int.natCast_nonneg i) (by omega) λa ha=>?_;exact ZO wK.row (Hp.sub_trans (oc.mem (c:=dK) (by simp)) hD) rfl ha (i:=i) hk rfl hK
 .obtain ⟨D',o2,o3⟩:=hcl h' _ l' o';exact ⟨D',o2,dB,dP,dK,cF,cQ,cA,cD,cO,cT,ks,cs.set i c',o3,wB,wP,wK,wF,wQ,wA,wD,wO,wT,Books.set ⟨hb1,hb2,hb3⟩ hk w'⟩
theorem ZLm {k1:Nat} {id:Int} (a:Zu k S h (Go.Eng.ob k1 [Value.int .i64 id] 2::l)) (hb:∀ x∈S.books,x.length≤1000) (hl:S.books.length≤1000) {Q:Int→Hp→Prop}
 (hq:∀ h',Zu k S h' (Go.Eng.ob k1 [Value.int .i64 id] 2::l)->Q (ZO1 (ZAi S id)) h'):
 ZA TP 201 [Value.slice k.sk.a k.sk.len k.sk.cap,Value.func (Fn.func 202) #[] #[Value.pointer (some ⟨k1,0,none⟩)]] (cI .i64) h Q:=by
 refine c201 (p0:=k.sk) (p1:=⟨202,#[],#[Value.pointer (some ⟨k1,0,none⟩)]⟩) ?_;unfold F201;have hskl:k.sk.len=S.books.length:=by obtain ⟨D,o,dB,dP,dK,cF,cQ,cA,cD,cO,cT,ks,cs,oc,wB,wP,wK,wF,wQ,wA,wD,wO,wT,wb⟩:=a;rw [<-wb.1]; exact wK.1
 refine Zb (λz h'=>∃ i:Nat,z=(i:Int)/\i<=S.books.length/\Zu k S h' (Go.Eng.ob k1 [Value.int .i64 id] 2::l)/\∀ j (hj:j<S.books.length),j<i->(ZQB S.books[j] id).isSome=false) (λz=>S.books.length-z.toNat)
  ⟨0,rfl,Nat.zero_le _,a,λj _ hj=>by omega⟩ ?_
 rintro J z h1 again ⟨i,rfl,hi,a1,hno⟩
 refine ZJ (λhlt=>?_) λhge=>?_
 ·have hi':i<S.books.length:=by omega
  obtain ⟨_,cb,R,q,o1,w1,hld,cl⟩:=a1.book2 hi';refine hld ?_;refine ⟨⟨Tryz.f202,_,Tryz.func202,rfl⟩,?_⟩;refine c202 ?_;unfold F202;refine ZI (cd:=cI .i64) (x:=id) o1 2 (i:=0) rfl rfl ?_;refine ZQp o1 w1 (hb _ (List.getElem_mem hi')) λc2 h2 o2 w2=>?_;have a2:=cl h2 c2 _ _ o2 w2;rw [List.set_getElem_self] at a2;have a2:Zu k S h2 (Go.Eng.ob k1 [Value.int .i64 id] 2::l):=a2;have er:(ZO8 S.books[i] id).2=(ZQB S.books[i] id).isSome:=by unfold ZO8;cases ZQB S.books[i] id<;>rfl
  rw [er];refine ZD (λe=>?_) λe=>?_
  .have ef:ZAi S id=some i:=by unfold ZAi;rw [List.findIdx?_eq_some_iff_getElem];exact ⟨hi',e,λj hj=>by rw [hno j (by omega) hj]; simp⟩
   have hq:=hq h2 a2;rw [ef] at hq;exact hq
  .rw [ZAQ (by omega)];refine again _ _ ⟨i+1,rfl,by omega,a2,λj hj hji=>?_⟩ (by omega);rcases Nat.lt_or_ge j i with h'|h'
   .exact hno j hj h'
   .have:j=i:=by omega
    subst this;exact e
 .have ef:ZAi S id=none:=by unfold ZAi;rw [List.findIdx?_eq_none_iff];intro x hx;obtain ⟨j,hj,rfl⟩:=List.mem_iff_getElem.1 hx;exact hno j hj (by omega)
  have hq:=hq h1 a1;rw [ef] at hq;exact hq
theorem ZDg {id:Int} {n:Nat} (hf:ZAi S id=some n):∃ (hn:n<S.books.length) (x:ZE),ZQB S.books[n] id=some x/\x∈S.books[n]/\x.ID=id/\ZO8 (Zc S n) id=(x,true):=by unfold ZAi at hf;obtain ⟨hn,h1,_⟩:=List.findIdx?_eq_some_iff_getElem.1 hf;obtain ⟨x,hx⟩:=Option.isSome_iff_exists.1 h1;have hm:=List.mem_of_find?_eq_some hx;have he:=List.find?_some hx;refine ⟨hn,x,hx,hm,by simpa using he,?_⟩;rw [ZAc (S:=S) (n:=(n:Int)) ⟨Int.natCast_nonneg _,by omega⟩];unfold ZO8;show (match ZQB S.books[n] id with|none=>(ZZm,false)|some o=>(o,true))=_;rw [hx]
theorem ZRh {m:Msg} (a:Has k b who c h l) (i:WOk N c.d) (hN:N≤9000) (hw:0≤who∧who<8) (ho:c.outs.length≤500000) {Q:Int→Hp→Prop} (hq:∀ h',Has k b who (ZAM c who m).1 h' l→Q (ZAM c who m).2 h'):
 ZA TP 131 [Value.pointer k.p,Value.pointer (some ⟨b,0,none⟩),ZAn.enc m] (cI .i64) h Q:=by
 refine c131 ?_;unfold F131;unfold ZAM at hq;refine ZD (λe=>?_) λe=>?_
 .rw [if_pos (by simpa using e)] at hq;exact ZUk a i hN hw ho hq
 rw [if_neg (by simpa using e)] at hq;refine ⟨by decide,by decide,?_⟩;refine a.new (vs:=[Value.int .i64 0]) λk1 h1 a1=>?_;obtain ⟨C,wc,D1,o1,w1⟩:=a1;refine ZZ (cd:=cI .i64) (i:=0) (x:=m.F_0) (vs':=[Value.int .i64 m.F_0]) (o1.pick [2,0,1] 3 (by decide) (by decide)) rfl rfl (Nat.le_refl 1) λh2 o2=>?_;have a2:Zu k c.d h2 (Go.Eng.ob k1 [Value.int .i64 m.F_0] 2::C::l):=⟨D1,o2.swap,w1⟩
 dsimp only [ZR,DK.p];refine ZF (cd:=cSl) (x:=k.sk) a2.ob (i:=5) rfl ?_;refine ZLm a2 (λx hx=>by have:=(i.books x hx).2.2.1; omega) (by have:=i.bl4; omega) λh3 a3=>?_;have a3':Has k b who c h3 (Go.Eng.ob k1 [Value.int .i64 m.F_0] 2::l):=⟨C,wc,a3.perm (List.Perm.swap _ _ _)⟩
 have hbl:=i.bl4;cases hf:ZAi c.d m.F_0 with
 | none=>
   rw [hf] at hq;exact Zh rfl (hq h3 a3'.drop)
 | some n=>
   rw [hf] at hq;dsimp only at hq;obtain ⟨hn,x,hx,hxm,hxi,hR⟩:=ZDg hf;have hgn:Zc c.d ((n:Nat):Int)=c.d.books[n]:=ZAc (S:=c.d) (n:=(n:Int)) ⟨Int.natCast_nonneg _,by omega⟩;have hbk:=i.books _ (List.getElem_mem hn);rw [hR] at hq;dsimp only at hq;refine ZT (decide_eq_false (by show ¬((n:Nat):Int)<0; omega)) ?_;obtain ⟨cb,R,q,o4,w4,hld,cl⟩:=a3.book hn;refine hld ?_;refine ZI (cd:=cI .i64) (x:=m.F_0) o4 2 (i:=0) rfl rfl ?_;refine ZQp o4 w4 (by have:=hbk.2.2.1; omega) λc5 h5 o5 w5=>?_;have a5:=cl h5 c5 _ _ o5 w5;rw [List.set_getElem_self] at a5;have a5:Has k b who c h5 (Go.Eng.ob k1 [Value.int .i64 m.F_0] 2::l):=⟨C,wc,a5.perm (List.Perm.swap _ _ _)⟩
   rw [<-hgn,hR];refine a5.ldWho ?_;refine ZD (λeo=>?_) λeo=>?_
   .rw [if_pos (by simpa using eo)] at hq;exact hq h5 a5.drop
   rw [if_neg (by simpa using eo)] at hq;have eo:x.Owner=who:=by simpa using eo
   refine ZF (cd:=cI .i64) (x:=m.F_0) (a5.sub (g:=Go.Eng.ob k1 [Value.int .i64 m.F_0] 2) (by simp)) (i:=0) rfl ?_;refine a5.setId λh6 a6=>?_;refine ZD (λe8=>?_) λe8=>?_
   .rw [if_pos (by simpa using e8)] at hq;refine ⟨by decide,by decide,by decide,by decide,?_⟩;exact ZQG (c:={c with id:=m.F_0}) (n:=(n:Int)) (x:=x) a6.drop i hN hw ho (ZBL.2 ⟨Int.natCast_nonneg _,by show ((n:Nat):Int)<c.d.books.length; omega⟩) (by rw [eo]; exact hw) hq
   rw [if_neg (by simpa using e8)] at hq;obtain ⟨C6,wc6,a6⟩:=a6;obtain ⟨cb,R,q,o7,w7,hld,cl⟩:=a6.book hn;refine hld ?_;refine ZI (cd:=cI .i64) (x:=m.F_0) o7 3 (i:=0) rfl rfl ?_;refine ZFu o7 w7 (by have:=hbk.2.2.1; show c.d.books[n].length<=1000; omega) λc8 h8 o8 w8=>?_;have a8:=cl h8 c8 _ _ o8 w8;have a8:Has k b who {c with id:=m.F_0,d:=ZA7 c.d (n:Int) (ZBC (Zc c.d (n:Int)) m.F_0)} h8 (Go.Eng.ob k1 [Value.int .i64 m.F_0] 2::l):=⟨C6,wc6,by rw [hgn]; exact a8⟩
   refine a8.ldWho ?_;refine ZF (cd:=cI .i64) (x:=m.F_0) (a8.sub (g:=Go.Eng.ob k1 [Value.int .i64 m.F_0] 2) (by simp)) (i:=0) rfl ?_;refine ZBv (ns:=[m.F_0,x.Left]) a8 (by simp) (by show c.outs.length<=_; omega) λh9 a9=>?_;exact hq h9 a9.drop
theorem ZXx {n is:Int} (a:Has k b who c h l) (i:WOk N c.d) {Q:Int→Hp→Prop} (hq:∀ h',Has k b who (ZGh c n is).1 h' l→Q (ZGh c n is).2 h'):
 ZA TP 137 [Value.pointer k.p,Value.pointer (some ⟨b,0,none⟩),Value.int .i64 n,Value.int .i64 is] (cI .i64) h Q:=by
 refine c137 ?_;unfold F137;unfold ZGh at hq;refine a.isBond (ZD (λe=>?_) λe=>?_)
 .rw [if_pos (by simpa using e)] at hq;exact hq h a
 have e:isBond c.d n=true:=by simpa using e
 rw [if_neg (by rw [e]; simp)] at hq;refine ZN (λt h'=>h'=h/\t=decide (is≠0/\is≠1)) ?_ λJ hJ=>?_
 .rintro t h' ⟨rfl,rfl⟩;refine ZJ (λhc=>?_) λhc=>?_
  .rw [if_pos hc] at hq;exact hq h' a
  rw [if_neg hc] at hq;dsimp only [ZR,DK.p];refine ZF (cd:=cSl) (x:=k.sb) a.ob (i:=0) rfl ?_;obtain ⟨_,h0,h1,hx⟩:=ZA6 e i.bl;obtain ⟨C,wc,a⟩:=a;obtain ⟨cb,R,o1,w1,cl⟩:=a.bonds;have hlen:=w1.1;have hbl:=i.bl;refine ZL w1.row h0 (by omega) λp hp=>?_;rw [w1.part_at hp];refine ZAC (cd:=ZAB) (cf:=cB) o1 rfl rfl w1 hp (i:=n.toNat) (x0:=ZAY c.d n) hx rfl (k:=6) (y:=is==1) (x':=ZXZ is (ZAY c.d n)) rfl (by decide) λc3 h3 o3 w3=>?_;have a3:Has k b who {c with d:={c.d with bonds:=c.d.bonds.set n.toNat (ZXZ is (ZAY c.d n))}} h3 l:=⟨C,wc,cl h3 c3 _ _ o3 w3⟩
  exact a3.setId λh4 a4=>hq h4 a4
 .refine ZD (λe=>hJ _ _ ⟨rfl,?_⟩) λe=>hJ _ _ ⟨rfl,?_⟩
  .have e:is≠0:=by simpa using e
   rw [Bool.eq_iff_iff]; simp [e]
  .have e:is=0:=by simpa using e
   rw [Bool.eq_iff_iff]; simp [e]
end
end Go.Proofs.YtkmniidiifpdgaaGreat
