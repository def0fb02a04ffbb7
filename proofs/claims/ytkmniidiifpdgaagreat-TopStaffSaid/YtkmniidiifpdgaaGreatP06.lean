/- Made by program: of our texts what this law needs (TopCu). -/
import Derived.Test.YtkmniidiifpdgaaGreatP05
set_option linter.unusedVariables false
namespace Go.Proofs.YtkmniidiifpdgaaGreat
open Go.Eng
theorem ZXa {who:Int} {S T:VS} {fs:List ZP} (a:ZGV who S fs T):ZAb S.d→ZAb T.d∧ZAf S.d T.d:=by
 induction a with
 | nil=>exact fun h=>⟨h,ZAf.refl _⟩
 | @cons S T U f fs t la ih=>
   intro h
   have h1:=ZZl (who:=who) (seq:=f.Seq) (m:=ZDH f) h
   have h2:=ZFG h1.1 (ZA2 t)
   have h3:=ih h2.1
   exact ⟨h3.1,(h1.2.trans h2.2).trans h3.2⟩
theorem ZEy {S T:VS} {ls:List LS} {who:Int} {os:List Out} (h:ZAb S.d) (t:ZMm ⟨(ZAU S.d who).1,ls⟩ os T):ZAb T.d∧ZAf S.d T.d:=by
 have h1:=ZFG h (ZB5 S.d who)
 have h2:=ZFG h1.1 (ZA2 t)
 exact ⟨h2.1,h1.2.trans h2.2⟩
theorem ZVm {S T:VS} {who:Nat} {x:LS} {bs:List Int} (h:ZAb S.d) (r:ZKq S who x bs T):ZAb T.d∧ZAf S.d T.d:=by
 obtain ⟨U,y,la,_,hT⟩:=r
 have h1:=ZXa la h
 split at hT
 ·have h2:=ZEy h1.1 hT
  exact ⟨h2.1,h1.2.trans h2.2⟩
 ·rw [hT]; exact h1
theorem ZWq {S0:VS} {j:Nat} {S:VS} (r:ZDg S0 j S):ZAb S0.d→ZAb S.d∧ZAf S0.d S.d:=by
 induction r with
 | zero=>exact fun h=>⟨h,ZAf.refl _⟩
 | stay _ _ _ ih=>exact ih
 | down _ _ _ t ih=>
   intro h
   have h1:=ih h
   have h2:=ZEy h1.1 t
   exact ⟨h2.1,h1.2.trans h2.2⟩
theorem ZVW {S T:VS} {kind who:Int} {bs:List Int} {b:Bool} (h:ZAb S.d) (r:DoR S kind who bs T b):ZAb T.d∧ZAf S.d T.d:=by
 unfold DoR at r
 split at r
 ·obtain ⟨_,d,os,U,ag,_,t,ln⟩:=r
  have h1:=ZX0 h ag
  have h2:=ZFG h1.1 (ZA2 t)
  have h3:=ZWq ln h2.1
  exact ⟨h3.1,(h1.2.trans h2.2).trans h3.2⟩
 split at r
 ·rw [r.2]; exact ⟨h,ZAf.refl _⟩
 split at r
 ·obtain ⟨_,x,_,t⟩:=r
  exact ZVm h t
 split at r
 ·obtain ⟨_,x,_,t⟩:=r
  unfold ZVo at t
  split at t
  ·exact ZEy h t
  ·rw [t]; exact ⟨h,ZAf.refl _⟩
 ·rw [r.2]; exact ⟨h,ZAf.refl _⟩
theorem ZTd {S T:VS} {i:Nat} {b:Bool} {bs:List Int} (h:ZAb S.d) (hi:i<S.ls.length) (r:DoR S 3 (i:Int) bs T b):(∀ (y:LS),T.ls[i]?=some y→y.s.up=false)∧(S.ls[i].s.up=true→ZN1 (i:Int) T.d.books):=by
 unfold DoR at r
 rw [if_neg (by decide),if_neg (by intro hn; exact hn ⟨by omega,by omega⟩),if_neg (by decide),if_pos rfl] at r
 obtain ⟨_,x,hx,t⟩:=r
 rw [Int.toNat_natCast] at hx t
 have hxe:S.ls[i]=x:=by
  rw [List.getElem?_eq_getElem hi] at hx
  exact Option.some.inj hx
 have hset:∀ y:LS,(S.ls.set i (ZLU x).1)[i]?=some y→y.s.up=false:=fun y hy=>by
  rw [List.getElem?_set_self hi] at hy
  cases hy
  rfl
 rw [hxe]
 unfold ZVo at t
 split at t
 ·have lt:=(ZCU t).2.2
  have qt:=ZA2 t
  refine ⟨fun y hy=>?_,fun _=>ZLf (ZSd h (i:Int)) qt.books⟩
  cases hu:y.s.up with
  | false=>rfl
  | true=>
    obtain ⟨z,hz,hzu⟩:=lt i y hy hu
    have hz:(S.ls.set i (ZLU x).1)[i]?=some z:=hz
    rw [hset z hz] at hzu
    cases hzu
 ·rename_i e
  subst t
  exact ⟨hset,fun hu=>absurd hu e⟩
section
variable {v:VK} {S:VS} {h:Hp} {l:List Hp} {N:Nat}
theorem ZI8 {i:Nat} {s:Int} (a:ZBA v S h l) (w:WOk N S.d) (hi:i<S.d.books.length) {Q:Sl→Hp→Prop} (hq:∀ sl d' h',ZBA v S h' (d'::l)→Own ZK d' sl (ZAZ S.d.books[i] s)→Q sl h'):
 ZA TP 27 [Value.pointer v.p] Go.Eng.cP h fun p2 h12=>ZA TP 19 [Value.pointer p2,Value.int .i64 (i:Int)] Go.Eng.cP h12 fun p3 h13=>ZA TP 20 [Value.pointer p3,Value.int .i64 s] cSl h13 Q:=by
 refine ZGe a ?_
 obtain ⟨R,b,cl⟩:=a.desk
 refine ZDW b (fun hf=>absurd hf (by unfold isBond; simp; omega)) fun i2 hi2 c R2 q e o9 w9 cl9=>?_
 have e2:i=i2:=by omega
 subst e2
 have hok:=w.books _ (List.getElem_mem hi2)
 have hx0:({S.d with books:=S.d.books.set i S.d.books[i]}:DS)=S.d:=by rw [List.set_getElem_self]
 generalize S.d.books[i]=bk at*
 refine ZDN (s:=s) o9 w9 hok.1 (by have:=hok.2.2.1; omega) fun s10 c10 d10 h10 o10 w10 wd10=>?_
 have b11:=cl9 h10 c10 (R::d10::l) bk (o10.pick [0,2,3,1] 4 (by decide) (by decide)) w10
 rw [hx0] at b11
 have a11:=cl h10 (d10::l) S.d b11
 exact hq s10 d10 h10 a11 wd10
theorem ZVr {p0:Sl} {g:Hp} {xs:List Act} {bss:List (List Int)} (hg:g.sub h) (r:Row ZCo g p0 xs) (ai:ZEi [g] xs bss) (hb:∀ b∈bss,b.length≤140737488351232) {Q:Bool→Hp→Prop} (h1:Q true h) (h2:xs.length≤120→ZFz bss≤6000→Q false h):
 ZA TP 23 [Value.slice p0.a p0.len p0.cap] cB h Q:=by
 refine c23 ?_
 unfold F23
 have hl:=r.1
 have hbound:∀ i,i≤200→ZFz (bss.take i)≤140737488351232*i:=by
  intro i
  induction i with
  | zero=>intro _; simp [ZFz]
  | succ i ih=>
    intro hi
    have ih:=ih (by omega)
    cases hx:bss[i]? with
    | none=>
      have hle:=List.getElem?_eq_none_iff.1 hx
      rw [List.take_of_length_le (by omega)] at ih ⊢
      omega
    | some b=>
      have:=ZE4 hx
      have:=hb b (List.mem_of_getElem? hx)
      omega
 refine Zb (fun z h'=>∃ i:Nat,z=((ZFz (bss.take i):Int),(i:Int))∧i≤xs.length∧i≤200∧h'=h) (fun z=>xs.length-z.2.toNat) ⟨0,by simp [ZFz],Nat.zero_le _,Nat.zero_le _,rfl⟩ ?_
 rintro J z h4 again ⟨i,rfl,hi,hi2,rfl⟩
 dsimp only
 have hbi:=hbound i hi2
 refine ZN (fun t h'=>h'=h4∧t=decide (i<xs.length∧i<200)) ?_ fun J2 hJ2=>?_
 ·rintro t h' ⟨rfl,rfl⟩
  refine ZH (fun hlt=>?_) fun hge=>?_
  ·have ax:xs[i]?=some xs[i]:=List.getElem?_eq_getElem hlt.1
   have hib:i<bss.length:=by rw [←ai.1]; exact hlt.1
   have ab:bss[i]?=some bss[i]:=List.getElem?_eq_getElem hib
   obtain ⟨_,g',hg',rx⟩:=ai.2 i _ _ ax ab
   have hlt2:=ZE4 ab
   have hbl:=hb _ (List.getElem_mem hib)
   have hbi2:=hbound (i+1) (by omega)
   have hxl:=rx.1
   generalize xs[i]=x at*
   generalize bss[i]=b at*
   refine ZM r (Int.natCast_nonneg i) (by omega) fun q hq'=>Zo (cd:=ZCo) (cf:=cSl) r hg rfl hq' (i:=i) ax (by rfl) (k:=2) (y:=x.B) rfl ?_
   rw [ZAH (by omega),hxl,w64 (by omega) (by omega)]
   exact again _ _ ⟨i+1,by rw [hlt2]; rfl,by omega,by omega,rfl⟩ (by dsimp only; omega)
  ·refine ZH (fun _=>h1) fun h120=>?_
   have hx:xs.length≤120:=by omega
   have hie:i=xs.length:=by omega
   have hta:bss.take i=bss:=by rw [hie,ai.1,List.take_length]
   rw [hta]
   by_cases h6:ZFz bss≤6000
   ·rw [decide_eq_false (by omega)]; exact h2 hx h6
   ·rw [decide_eq_true (by omega)]; exact h1
 ·refine ZH (fun h1=>hJ2 _ _ ⟨rfl,?_⟩) fun h1=>hJ2 _ _ ⟨rfl,?_⟩
  ·rw [decide_eq_decide]; omega
  ·rw [eq_comm,decide_eq_false_iff_not]; omega
end
end Go.Proofs.YtkmniidiifpdgaaGreat
