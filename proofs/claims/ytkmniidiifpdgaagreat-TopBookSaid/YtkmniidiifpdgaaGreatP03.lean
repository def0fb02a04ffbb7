/- Made by program: of our texts what this law needs (FH FI FK FL FM FO BaseA PackM PackN PackP PackG PackH PackL KeepA MailA FrameP FrameQ). -/
import Derived.Test.YtkmniidiifpdgaaGreatP02
set_option linter.unusedVariables false
set_option maxRecDepth 20000
namespace Go.Proofs.YtkmniidiifpdgaaGreat
open Go.Eng
open IntKind (i64 u64 u8)
abbrev Xv:=@List.length_singleton
abbrev Xy:=@List.foldl_cons
abbrev Wg:=@List.perm_middle
abbrev Ws:=@Nat.le_succ
abbrev Wy:=@beq_eq_false_iff_ne
abbrev WN:=@List.mem_of_mem_take
abbrev WS:=@beq_iff_eq
abbrev Ye:=@or_false
abbrev Yj:=@BitVec.ofInt_natCast
abbrev YE:=@Int.tmod_eq_emod_of_nonneg
abbrev YF:=@BitVec.toNat_ofInt
abbrev YP:=@Nat.and_two_pow_sub_one_eq_mod
abbrev YS:=@Option.map_eq_some_iff
abbrev YU:=@BitVec.toNat_ofNat
abbrev Vm:=@of_decide_eq_false
abbrev Vt:=@Nat.mul_le_mul_left
abbrev Vu:=@List.take_succ_cons
abbrev Vw:=@Int.le_of_lt
abbrev Vx:=@decide_eq_true_iff
abbrev VJ:=@BitVec.toNat_and
abbrev VL:=@Nat.pow_succ
abbrev Ua:=@Int.pow_pos
variable {d:Act}{h g:Hp}{O:Option Addr->Hp->Prop}{p:Option Addr}{B:Bool->Hp->Prop}{U:Unit->Hp->Prop}{i j l m b x y lo n v c seq:Int}{s t p0:Sl}{S:Sl->Hp->Prop}{Q:Int->Hp->Prop}{e f a:Addr}{o:Option (Nat×Nat)}{ss:List Sl}{bss q:List (List Int)}{bs ns xs ys body:List Int}{cd cf:Cdc}{k z b1 b2:Nat}{K:Hp->Prop}{v1 v2:Value}{e1 e2:TypeId}{α:Type}{all:List ZY}{shut:Bool}
theorem c24{d:ZDY}(H:cx 8 [ZAK.enc d] cP h λp1 w=>ZB p1.isNone (O none w) (ZJ (Obj.cells ⟨[vp p1,.slice none 0 0]⟩ 152) w λk1 E=>Ze (0:Int) E λD C r=>ZB (decide (C<d.Parties.len)) (ZC cSl ⟨k1,0+1,none⟩ r λ(s1:Sl)=>cx 60 [vi d.Beat] cP r λN A=>(A.rds ⟨k1,0+1,none⟩ [.slice s1.a s1.len s1.cap]/\True)/\ZJ (Obj.cells ⟨[vp N]⟩ 153) A λI F=>ZR cP 153 8 s1.a s1.len s1.cap (sj I) 1 F λP (L M:Nat) h6=>ZS cSl ⟨k1,0+1,none⟩ ⟨P,L,M⟩ h6 λG=>D (i64.wrap (C+1)) G) (O (sj k1) r))):cx 24 [ZAK.enc d] (cP) h O:=cc (mkA 2 [(12,1),(22,1)] 0 (bc [(1,ZAK)])) (dh 0x8eac08d6a9a0144d2 [.l [(15,false,ci)] 1073709056,.c (.reg [(0,[]),(1,[]),(2,[]),(3,[]),(5,[]),(6,[]),(4,[]),(7,[4]),(8,[]),(9,[]),(10,[]),(11,[]),(12,[])])]) H
theorem c25(F:ZB p.isNone (B false h) (ZB (d.Kind==2) (cx 61 [vp p] (ZV []) h λL C=>B true C) (cx 62 [vp p,vi d.Who] cB h λ(H:Bool) h2=>ZB (!H) (B false h2) (ZB (d.Kind==1) (cx 63 [vp p,ZFI.enc d] (ZV []) h2 λM D=>B true D) (ZB (d.Kind==3) (ZM p λw=>ZC cSl ⟨w.block,w.off+1,none⟩ h2 λ(s1:Sl)=>Zb s1.a s1.len d.Who λA=>ZC cP (A.add (d.Who.toNat*1)) h2 λr=>cx 64 [vp r] cB h2 λ(I:Bool) h4=>ZB I (ZM p λa3=>ZC cP (a3.add 0) h4 λG=>cx 51 [vp G,vi d.Who] cSl h4 λ(s2:Sl) h5=>cx 65 [vp p,.slice s2.a s2.len s2.cap] (ZV []) h5 λN E=>B true E) (B true h4)) (B false h2)))))):cx 25 [vp p,ZFI.enc d] (cB) h B:=cc (mkA 8 [(9,3),(16,3),(21,3),(28,3),(35,3),(45,3)] 0 (bc [(3,ZFI)])) (dh 0x2010d337104a20a209441455a [.o 9 [55],.o 9 [111]]) F
def a26:Ann:=mkA 0 [] 0 (bc [])
theorem c27(w:ZB p.isNone (O none h) (ZM p λr=>ZC cP (r.add 0) h λp1=>O p1 h)):cx 27 [vp p] (cP) h O:=cd0 (dh 4204698 []) w
theorem c61(I:ZM p λF=>ZC cP (F.add 0) h λp1=>cx 50 [vp p1] cSl h λ(s1:Sl) h1=>cx 65 [vp p,.slice s1.a s1.len s1.cap] (ZV []) h1 λP D=>ZM p λC=>ZC cSl ⟨C.block,C.off+1,none⟩ D λ(s2:Sl)=>Ze (0:Int) D λE r w=>ZB (decide (r<s2.len)) (ZT (λR G=>E (i64.wrap (r+1)) G) λ(A:PUnit->Hp->Prop)=>Zb s2.a s2.len r λa3=>ZC cP (a3.add (r.toNat*1)) w λL=>cx 107 [vp L] cB w λ(N:Bool) h5=>ZB N (ZM p λa4=>ZC cP (a4.add 0) h5 λM=>cx 51 [vp M,vi r] cSl h5 λ(s3:Sl) h6=>cx 65 [vp p,.slice s3.a s3.len s3.cap] (ZV []) h6 λV H=>A PUnit.unit H) (A PUnit.unit h5)) (U PUnit.unit w)):cx 61 [vp p] (ZV []) h U:=cd0 (dh 288233511562578 [.l [(16,false,ci)] 4294901772,.k [] 2147221516]) I
theorem c62(w:ZB (!p.isNone) (ZB (decide (i>=0)) (ZM p λr=>ZC cSl ⟨r.block,r.off+1,none⟩ h λ(s1:Sl)=>B (decide (i<s1.len)) h) (B false h)) (B false h)):cx 62 [vp p,vi i] (cB) h B:=cd0 (dh 18 []) w
theorem c63(M:ZM p λF=>ZC cSl ⟨F.block,F.off+1,none⟩ h λ(s1:Sl)=>Zb s1.a s1.len d.Who λH=>ZC cP (H.add (d.Who.toNat*1)) h λr=>cx 108 [vp r,.slice d.B.a d.B.len d.B.cap] (ZV [cSl,cB]) h λ(D:Sl×Bool) h1=>cx 66 [vp r] cB h1 λ(R:Bool) h2=>Ze (0:Int) h2 λG C A=>ZB (decide (C<D.fst.len)) (Zb D.fst.a D.fst.len C λa3=>ZC ZZ (a3.add (C.toNat*8)) A λ(w:ZY)=>ZM p λa4=>ZC cP (a4.add 0) A λN=>cx 49 [vp N,vi d.Who,vi w.Seq,.agg ⟨[vi w.Msg_Kind,vi w.Msg_F_0,vi w.Msg_F_1,vi w.Msg_F_2,vi w.Msg_F_3,vi w.Msg_F_4,vi w.Msg_F_5]⟩] cSl A λ(s2:Sl) h4=>cx 65 [vp p,.slice s2.a s2.len s2.cap] (ZV []) h4 λW I=>G (i64.wrap (C+1)) I) (ZT (λ(V:Bool) h6=>ZB V (ZM p λa5=>ZC cP (a5.add 0) h6 λP=>cx 51 [vp P,vi d.Who] cSl h6 λ(s3:Sl) h7=>cx 65 [vp p,.slice s3.a s3.len s3.cap] (ZV []) h7 λX L=>U PUnit.unit L) (U PUnit.unit h6)) λE=>ZB D.snd (E true A) (ZB R (cx 66 [vp r] cB A λ(t3:Bool) h9=>E (!t3) h9) (E false A)))):cx 63 [vp p,ZFI.enc d] (ZV []) h U:=cc (mkA 520 [(14,3),(20,3),(38,3),(40,9),(42,9),(61,3)] 0 (bc [(3,ZFI),(9,ZZ)])) (dh 0x1a1c72ac08d6a9a59a [.o 9 [55],.l [(29,false,ci)] 140736951484928,.o 13 [2031],.j [(55,false,cB)] (mq [47,56]),.o 9 [111]]) M
theorem c65(Y:cx 110 [vp p,.slice s.a s.len s.cap] cSl h λ(s1:Sl) h1=>Ze (s1,true) h1 λM D G=>ZB D.snd (ZM p λL=>ZC cSl ⟨L.block,L.off+1,none⟩ G λ(s2:Sl)=>ZC2 s2.len s2.len 1 (ZJ (Obj.cells {toList:=Z0 (s2.len:Int).toNat [.bool false]:Array Value} 4) G λk1 W=>Ze (false,(0:Int)) W λN w A=>ZB (decide (w.snd<D.fst.len)) (ZT (λ(Z:Bool) h5=>N (Z,i64.wrap (w.snd+1)) h5) λH=>Zb D.fst.a D.fst.len w.snd λR=>ZC cB (R.add (w.snd.toNat*1)) A λ(t2:Bool)=>ZB (!t2) (H w.fst A) (ZM p λa3=>ZC cP (a3.add 0) A λp1=>cx 51 [vp p1,vi w.snd] cSl A λ(s3:Sl) h6=>cx 110 [vp p,.slice s3.a s3.len s3.cap] cSl h6 λ(s4:Sl) h7=>Ze (0:Int) h7 λP r C=>ZB (decide (r<s4.len)) (ZT (λu1 X=>P (i64.wrap (r+1)) X) λ(I:PUnit->Hp->Prop)=>Zb s4.a s4.len r λa4=>ZC cB (a4.add (r.toNat*1)) C λ(t3:Bool)=>Zb (sj k1) (s2.len:Int).toNat r λa5=>ZC cB (a5.add (r.toNat*1)) C λ(t4:Bool)=>ZB t4 (Zb (sj k1) (s2.len:Int).toNat r λa6=>ZS cB (a6.add (r.toNat*1)) true C λE=>I PUnit.unit E) (Zb (sj k1) (s2.len:Int).toNat r λV=>ZS cB (V.add (r.toNat*1)) t3 C λF=>I PUnit.unit F)) (H true C))) (M (⟨sj k1,(s2.len:Int).toNat,(s2.len:Int).toNat⟩,w.fst) A))) (U PUnit.unit G)):cx 65 [vp p,.slice s.a s.len s.cap] (ZV []) h U:=cd0 (dh 0x24acc08d6a9011359811ad524a8113d52 [.l [(4,false,cSl),(5,false,cB)] (mq [4,11,14,57]),.l [(5,false,cB),(24,false,ci)] 144115188059080608,.k [(5,false,cB)] 72057593970821024,.l [(40,false,ci)] (mq [9,11,40,56]),.k [] (mq [9,11,42,55])]) Y
theorem c70(A:cx 62 [vp p,vi i] cB h λ(C:Bool) h1=>ZB (!C) (S ⟨none,0,0⟩ h1) (ZM p λr=>ZC cSl ⟨r.block,r.off+1,none⟩ h1 λ(s1:Sl)=>Zb s1.a s1.len i λw=>ZC cP (w.add (i.toNat*1)) h1 λp1=>cx 114 [vp p1] cSl h1 S)):cx 70 [vp p,vi i] (cSl) h S:=cd0 (dh 4204698 []) A
theorem c110(R:ZM p λE=>ZC cSl ⟨E.block,E.off+1,none⟩ h λ(s1:Sl)=>ZC2 s1.len s1.len 1 (ZJ (Obj.cells {toList:=Z0 (s1.len:Int).toNat [.bool false]:Array Value} 4) h λk1 L=>Ze (0:Int) L λF A D=>ZB (decide (A<s.len)) (ZT (λX M=>F (i64.wrap (A+1)) M) λ(w:PUnit->Hp->Prop)=>Zb s.a s.len A λG=>ZC ZCH (G.add (A.toNat*8)) D λ(r:Out)=>cx 62 [vp p,vi r.To] cB D λ(V:Bool) h4=>ZB (!V) (w PUnit.unit h4) (ZM p λa3=>ZC cSl ⟨a3.block,a3.off+1,none⟩ h4 λ(s2:Sl)=>Zb s2.a s2.len r.To λa4=>ZC cP (a4.add (r.To.toNat*1)) h4 λp1=>cx 66 [vp p1] cB h4 λ(W:Bool) h5=>cx 185 [vp p1,.agg ⟨[vi r.Msg_Kind,vi r.Msg_F_0,vi r.Msg_F_1,vi r.Msg_F_2,vi r.Msg_F_3,vi r.Msg_F_4,vi r.Msg_F_5]⟩] cB h5 λ(t3:Bool) h6=>Zb (sj k1) (s1.len:Int).toNat r.To λa5=>ZC cB (a5.add (r.To.toNat*1)) h6 λ(t4:Bool)=>ZB t4 (Zb (sj k1) (s1.len:Int).toNat r.To λa6=>ZS cB (a6.add (r.To.toNat*1)) true h6 λN=>w PUnit.unit N) (ZB W (cx 66 [vp p1] cB h6 λ(t5:Bool) h8=>Zb (sj k1) (s1.len:Int).toNat r.To λH=>ZS cB (H.add (r.To.toNat*1)) (!t5) h8 λP=>w PUnit.unit P) (Zb (sj k1) (s1.len:Int).toNat r.To λI=>ZS cB (I.add (r.To.toNat*1)) false h6 λC=>w PUnit.unit C)))) (S ⟨sj k1,(s1.len:Int).toNat,(s1.len:Int).toNat⟩ D))):cx 110 [vp p,.slice s.a s.len s.cap] (cSl) h S:=cc (mkA 128 [(23,7),(31,7),(38,7),(42,7),(45,7)] 0 (bc [(7,ZCH)])) (dh 0x11c966044d66046b54d2 [.l [(18,false,ci)] (mq [7,10,18,59]),.k [] (mq [7,10,20,58]),.o 9 [55],.o 18 []]) R
theorem c31{d:ZDY}{Q:ZBz->Hp->Prop}(X:cx 24 [ZAK.enc d] cP h λr L=>ZB r.isNone (Q {Sent:=⟨none,0,0⟩,Taken:=⟨none,0,0⟩,Venue:=none:ZBz} L) (ZC2 d.Parties.len d.Parties.len 24 (ZJ (Obj.cells {toList:=Z0 (d.Parties.len:Int).toNat [.slice none 0 0]:Array Value} 163) L λk1 V=>Ze (0:Int) V λM C F=>ZB (decide (C<s.len)) (Zb s.a s.len C λR=>ZC ZFI (R.add (C.toNat*3)) F λ(x1:Act)=>cx 25 [vp r,ZFI.enc x1] cB F λ(t1:Bool) h4=>Ze (0:Int) h4 λN A G=>ZB (decide (A<(↑(d.Parties.len:Int).toNat:Int))) (Zb (sj k1) (d.Parties.len:Int).toNat A λI=>ZC cSl (I.add (A.toNat*1)) G λ(s1:Sl)=>cx 70 [vp r,vi A] cSl G λ(s2:Sl) h6=>(h6.rds (I.add (A.toNat*1)) [.slice s1.a s1.len s1.cap]/\True)/\ZR cSl 85 24 s1.a s1.len s1.cap s2.a s2.len h6 λp2 (Y Z:Nat) h7=>Zb (sj k1) (d.Parties.len:Int).toNat A λa3=>ZS cSl (a3.add (A.toNat*1)) ⟨p2,Y,Z⟩ h7 λW=>N (i64.wrap (A+1)) W) (M (i64.wrap (C+1)) G)) (Ze ({Sent:=⟨none,0,0⟩,Taken:=⟨none,0,0⟩,Venue:=r:ZBz},(0:Int)) F λP w H=>ZB (decide (w.snd<(↑(d.Parties.len:Int).toNat:Int))) (Zb (sj k1) (d.Parties.len:Int).toNat w.snd λa4=>ZC cSl (a4.add (w.snd.toNat*1)) H λ(s3:Sl)=>cx 71 [.slice s3.a s3.len s3.cap] cSl H λ(s4:Sl) h10=>ZJ (Obj.cells ⟨[.slice s4.a s4.len s4.cap]⟩ 165) h10 λk4 D=>ZR cSl 165 24 w.fst.Sent.a w.fst.Sent.len w.fst.Sent.cap (sj k4) 1 D λp3 (k5 k6:Nat) h12=>cx 72 [.slice s4.a s4.len s4.cap] cSl h12 λ(s5:Sl) h13=>ZJ (Obj.cells ⟨[.slice s5.a s5.len s5.cap]⟩ 144) h13 λk7 E=>ZR cSl 144 24 w.fst.Taken.a w.fst.Taken.len w.fst.Taken.cap (sj k7) 1 E λp4 (k8 k9:Nat) h15=>P ({Sent:=⟨p3,k5,k6⟩,Taken:=⟨p4,k8,k9⟩,Venue:=w.fst.Venue:ZBz},i64.wrap (w.snd+1)) h15) (Q w.fst H))))):cx 31 [ZAK.enc d,.slice s.a s.len s.cap] (ZBD) h Q:=cc (mkA 1300 [(19,2),(60,10),(65,10),(66,10),(72,10)] 0 (bc [(2,ZAK),(4,ZBD),(8,ZFI),(10,ZBD)])) (dh 0x11c92ac08d6a9a272ac08d6a92ac08d6a9a0144d2 [.l [(25,false,ci)] 1125899873288960,.l [(34,false,ci)] 562932773552640,.c (.reg [(0,[]),(1,[]),(2,[]),(3,[]),(4,[]),(6,[]),(7,[]),(5,[]),(8,[5]),(9,[]),(10,[]),(11,[])]),.l [(10,true,ZBD),(54,false,ci)] 18889447917080071386112,.o 8 []]) X
theorem c71(M:cx 105 [] cP h λp1 I=>Ze ({a:=none,len:=0,cap:=0:Sl},(0:Int)) I λE w A=>ZB (decide (w.snd<s.len)) (Zb s.a s.len w.snd λG=>ZC cSl (G.add (w.snd.toNat*1)) A λ(s1:Sl)=>cx 115 [vp p1,.slice s1.a s1.len s1.cap] cSl A λ(s2:Sl) h3=>Ze (w.fst,(0:Int)) h3 λF r C=>ZB (decide (r.snd<s2.len)) (ZT (λ(s3:Sl) h5=>F (s3,i64.wrap (r.snd+1)) h5) λD=>Zb s2.a s2.len r.snd λH=>ZC cSl (H.add (r.snd.toNat*1)) C λ(s4:Sl)=>cx 116 [.slice s4.a s4.len s4.cap] (ZV [ZZ,ci]) C λ(z3:ZY×Int) h6=>ZB (z3.snd==0) (ZJ (Obj.cells ⟨eFrame z3.fst⟩ 161) h6 λk1 L=>ZR ZZ 161 64 r.fst.a r.fst.len r.fst.cap (sj k1) 1 L λR (N P:Nat) h8=>D ⟨R,N,P⟩ h8) (D r.fst h6)) (E (r.fst,i64.wrap (w.snd+1)) C)) (S w.fst A)):cx 71 [.slice s.a s.len s.cap] (cSl) h S:=cc (mkA 512 [] 0 (bc [(9,ZZ)])) (dh 0x1120c4966046b54ab0235aa692 [.l [(3,false,cSl),(14,false,ci)] 549755799368,.l [(3,false,cSl),(22,false,ci)] 274873714440,.k [(3,false,cSl)] 137422178056]) M
theorem c72(M:ZJ (Obj.map {toList:=[]:Array MapEntry} 0) h λk1 I=>ZT (S) λ(C:Sl->Hp->Prop)=>Ze ({a:=none,len:=0,cap:=0:Sl},(0:Int)) I λG w A=>ZB (decide (w.snd<s.len)) (ZT (λ(s2:Sl) h4=>G (s2,i64.wrap (w.snd+1)) h4) λD=>Zb s.a s.len w.snd λH=>ZC ZZ (H.add (w.snd.toNat*8)) A λ(r:ZY)=>ZT (λ(V:Bool) h5=>ZB V (D w.fst h5) (ZZt cB i64 (some k1) r.Seq true h5 λF=>ZB (r.Seq != i64.wrap ((w.fst.len:Int)+1)) (C w.fst F) (ZJ (Obj.cells ⟨[vi r.Msg_Kind,vi r.Msg_F_0,vi r.Msg_F_1,vi r.Msg_F_2,vi r.Msg_F_3,vi r.Msg_F_4,vi r.Msg_F_5]⟩ 59) F λN L=>ZR ZAk 59 56 w.fst.a w.fst.len w.fst.cap (sj N) 1 L λp1 (P R:Nat) h8=>D ⟨p1,P,R⟩ h8))) λE=>ZB (r.Seq==0) (E true A) (ZW7 cB i64 (some k1) r.Seq false A λ(W:Bool)=>E W A)) (C w.fst A)):cx 72 [.slice s.a s.len s.cap] (cSl) h S:=cc (mkA 64 [(14,6),(19,6),(24,6),(26,6),(33,6)] 0 (bc [(6,ZZ)])) (dh 0x112044d010e6b30235b2692 [.k [(3,false,cSl)] 274877905992,.l [(3,false,cSl),(10,false,ci)] 274877905992,.k [(3,false,cSl)] 137438949448,.j [(22,false,cB)] 8372224]) M
theorem c9{Q:ZDY->Hp->Prop}(G:ZJ (Obj.cells ⟨[vi 5,vi 10,vi 10,vi 100,vi 5,vi 500,.bool false,vi 1,vi 1,vi 1,vi 1000,vi 1,vi 1000,.bool false]⟩ 105) h λk1 C=>ZJ (Obj.cells ⟨[vi 1,.int .u64 12,vi 0,vi 1,.int .u64 4,vi 0,vi 2,.int .u64 0,vi 100000,vi 2,.int .u64 0,vi 3000,vi 3,.int .u64 0,vi 0]⟩ 108) C λA w=>ZT (Q) λ(r:ZDY->Hp->Prop)=>ZB (ZCe i64 i (3:Int)==1) (ZJ (Obj.cells ⟨[vi 1,vi 1,vi 1,vi 1000,vi 1,vi 1000,.bool false]⟩ 105) w λH D=>r {Bonds:=⟨sj H,1,1⟩,Parties:=⟨sj A,5,5⟩,Look:=1,Beat:=50:ZDY} D) (ZB (ZCe i64 i (3:Int)==2) (ZJ (Obj.cells ⟨[vi 1,vi 1,vi 1,vi 1000,vi 1,vi 1000,.bool false,vi 5,vi 10,vi 10,vi 100,vi 5,vi 500,.bool false]⟩ 105) w λI E=>r {Bonds:=⟨sj I,2,2⟩,Parties:=⟨sj A,5,5⟩,Look:=3,Beat:=4:ZDY} E) (ZB (ZCe i64 i (3:Int)==3) (ZJ (Obj.cells ⟨[vi 1,.int .u64 12,vi 0,vi 2,.int .u64 0,vi 0]⟩ 108) w λL F=>ZR Zu 108 24 (sj A) 5 5 (sj L) 2 F λp1 (M N:Nat) h7=>r {Bonds:=⟨sj k1,2,2⟩,Parties:=⟨p1,M,N⟩,Look:=3,Beat:=50:ZDY} h7) (r {Bonds:=⟨sj k1,2,2⟩,Parties:=⟨sj A,5,5⟩,Look:=3,Beat:=50:ZDY} w)))):cx 9 [vi i] (ZAK) h Q:=cc (mkA 60 [(24,5),(25,5),(31,5),(32,5),(35,5),(41,5)] 0 (bc [(2,ZAK),(3,Zs),(4,Zs),(5,ZAK)])) (dh 0x40c454454593492 [.k [(5,true,ZAK)] 4398045462560]) G
theorem c14{d:ZDL}(D:ZB (d.Kind==1) (cx 49 [vp p,vi d.Who,vi d.N,.agg ⟨[vi d.Msg_Kind,vi d.Msg_F_0,vi d.Msg_F_1,vi d.Msg_F_2,vi d.Msg_F_3,vi d.Msg_F_4,vi d.Msg_F_5]⟩] cSl h S) (ZB (d.Kind==2) (cx 50 [vp p] cSl h S) (ZB (d.Kind==3) (cx 51 [vp p,vi d.Who] cSl h S) (Ze ({a:=none,len:=0,cap:=0:Sl},(0:Int)) h λC r A=>ZT (λ(F:Bool) h5=>ZB F (cx 50 [vp p] cSl h5 λ(s4:Sl) h6=>ZR ZCH 78 64 r.fst.a r.fst.len r.fst.cap s4.a s4.len h6 λp1 (k1 E:Nat) h7=>C (⟨p1,k1,E⟩,i64.wrap (r.snd+1)) h7) (S r.fst h5)) λw=>ZB (decide (r.snd<d.N)) (w (decide (r.snd<40)) A) (w false A))))):cx 14 [vp p,ZCG.enc d] (cSl) h S:=cc (mkA 8 [(7,3),(12,3),(14,3),(16,3),(26,3),(30,3)] 0 (bc [(3,ZCG)])) (dh 0x226b021cf54d00a20a20a2a9a [.l [(5,false,cSl),(6,false,ci)] 8795556151392,.j [(36,false,cB)] (mq [29,37])]) D
def a18:Ann:=mkA 2 [(6,1),(11,1),(15,1),(37,1)] 0 (bc [(1,ZBD)])
def n18:An:=(s0 (s0 (sq (.join [(14,false,cB)] 32704 r0 (cn (s0 lf) lf)) (s0 (s0 lf)))))
def F18  (h:Hp) (Q:Bool->Hp->Prop):Prop:=cx 9 [vi 0] ZAK h λ(x1:ZDY) h1=>cx 55 [.slice none 0 0] cSl h1 λ(s1:Sl) h2=>cx 31 [ZAK.enc x1,.slice s1.a s1.len s1.cap] ZBD h2 λ(x2:ZBz) h3=>ZT (λ(t1:Bool) h4=>ZB t1 (Q false h4) (cx 27 [vp x2.Venue] cP h4 λp1 h5=>cx 11 [vp p1] cSl h5 λ(s2:Sl) h6=>ZB ((↑s2.len:Int)==1) (Zb s2.a s2.len 0 λa1=>ZC ci ⟨(a1.add 0).block,(a1.add 0).off+4,none⟩ h6 λ(n1:Int)=>ZB (n1==100) (Zb s2.a s2.len 0 λa2=>ZC ci ⟨(a2.add 0).block,(a2.add 0).off+6,none⟩ h6 λ(n2:Int)=>ZB (n2==1) (Zb x2.Taken.a x2.Taken.len 0 λa3=>ZC cSl (a3.add 0) h6 λ(s3:Sl)=>Q ((↑s3.len:Int)==5) h6) (Q false h6)) (Q false h6)) (Q false h6))) λ(J1:Bool->Hp->Prop)=>ZB ((↑x2.Taken.len:Int) != 5) (J1 true h3) (J1 x2.Venue.isNone h3)
theorem c18  {h:Hp} {Q:Bool->Hp->Prop} (r:F18  h Q):cx 18 [] (cB) h Q:=cc a18 n18 r
theorem c29(C:ZJ (Obj.cells ⟨[vi i]⟩ 2) h λk1 w=>cx 69 [vi 1,.slice (sj k1) 1 1] ZAk w λ(r:Msg) h2=>ZJ (Obj.cells ⟨[vi 0,vi r.Kind,vi r.F_0,vi r.F_1,vi r.F_2,vi r.F_3,vi r.F_4,vi r.F_5]⟩ 161) h2 λD A=>cx 68 [.slice (sj D) 1 1] cSl A S):cx 29 [vi i] (cSl) h S:=cd0 (dh 18 []) C
theorem c30{d:Msg}{Q:Act->Hp->Prop}(w:ZJ (Obj.cells ⟨[vi j,vi d.Kind,vi d.F_0,vi d.F_1,vi d.F_2,vi d.F_3,vi d.F_4,vi d.F_5]⟩ 161) h λk1 r=>cx 68 [.slice (sj k1) 1 1] cSl r λ(s1:Sl) h2=>Q {Kind:=1,Who:=i,B:=s1:Act} h2):cx 30 [vi i,vi j,ZAk.enc d] (ZFI) h Q:=cc (mkA 96 [] 0 (bc [(5,ZAk),(6,ZFI)])) (dh 18 []) w
theorem c55(L:cx 29 [vi 1] cSl h λ(s1:Sl) h1=>cx 29 [vi 1] cSl h1 λ(s2:Sl) h2=>ZJ (Obj.cells ⟨[vi 0,vi 1,vi 10,vi 4,vi 20]⟩ 2) h2 λk1 G=>cx 69 [vi 9,.slice (sj k1) 5 5] ZAk G λ(x1:Msg) h4=>cx 30 [vi 0,vi 1,ZAk.enc x1] ZFI h4 λ(r:Act) h5=>ZJ (Obj.cells ⟨[vi 1,vi 100,vi 10]⟩ 2) h5 λM H=>cx 69 [vi 10,.slice (sj M) 3 3] ZAk H λ(x3:Msg) h7=>cx 30 [vi 2,vi 1,ZAk.enc x3] ZFI h7 λ(w:Act) h8=>ZJ (Obj.cells ⟨[vi 1]⟩ 2) h8 λN I=>cx 69 [vi 12,.slice (sj N) 1 1] ZAk I λ(x5:Msg) h10=>cx 30 [vi 0,vi 2,ZAk.enc x5] ZFI h10 λ(A:Act) h11=>ZJ (Obj.cells ⟨[vi 1,vi 0,.slice s1.a s1.len s1.cap,vi 1,vi 2,.slice s2.a s2.len s2.cap,vi r.Kind,vi r.Who,.slice r.B.a r.B.len r.B.cap,vi w.Kind,vi w.Who,.slice w.B.a w.B.len w.B.cap,vi A.Kind,vi A.Who,.slice A.B.a A.B.len A.B.cap]⟩ 87) h11 λP C=>ZR ZFI 87 40 (sj P) 5 5 s.a s.len C λp1 (R V:Nat) h13=>ZJ (Obj.cells ⟨[vi 1]⟩ 2) h13 λW D=>cx 69 [vi 14,.slice (sj W) 1 1] ZAk D λ(x7:Msg) h15=>cx 30 [vi 2,vi 2,ZAk.enc x7] ZFI h15 λ(x8:Act) h16=>ZJ (Obj.cells ⟨eAct x8⟩ 87) h16 λX E=>ZR ZFI 87 40 p1 R V (sj X) 1 E λZ (Y F:Nat) h18=>S ⟨Z,Y,F⟩ h18):cx 55 [.slice s.a s.len s.cap] (cSl) h S:=cd0 (dh 1170 []) L
theorem c68(E:Ze ({a:=none,len:=0,cap:=0:Sl},(0:Int)) h λC r w=>ZB (decide (r.snd<s.len)) (Zb s.a s.len r.snd λD=>ZC ZZ (D.add (r.snd.toNat*8)) w λ(G:ZY)=>cx 113 [ZZ.enc G] cSl w λ(s1:Sl) h2=>cx 112 [.slice s1.a s1.len s1.cap] (ZV [cSl,cB]) h2 λ(A:Sl×Bool) h3=>ZR (cI u8) 5 1 r.fst.a r.fst.len r.fst.cap A.fst.a A.fst.len h3 λp1 (k1 F:Nat) h4=>C (⟨p1,k1,F⟩,i64.wrap (r.snd+1)) h4) (S r.fst w)):cx 68 [.slice s.a s.len s.cap] (cSl) h S:=cd0 (dh 604001323144402 [.l [(3,false,cSl),(4,false,ci)] 33554424]) E
def a3:Ann:=mkA 1097728 [(62,14),(66,14),(76,14),(80,14),(83,14)] 0 (bc [(14,Zx),(15,Zm),(20,Zm)])
def n3:An:=(s0 (sq (s0 (cn (s0 lf) lf)) (s0 (s0 (sq (s0 (bk (.loop [(7,false,ci)] (mq [4,5,7,23,32,191]) (sq (.join [(39,false,cB)] (mq [32,40]) r0 (cn lf lf)) (sq (bk (s0 (s0 (s0 (s0 (s0 (sq (s0 (bk (.loop [(10,false,cSl),(11,false,cSl),(13,false,ci)] (mq [4,5,10,12,13,17,52,96]) (sq (s0 (cn lf lf)) (sq (bk (s0 (sq (.join [(70,false,cB)] (mq [62,71]) r0 (cn (s0 lf) lf)) (sq (rb 20 [139063]) r0)))) r0))))) (s0 (s0 (s0 (s0 (bk (.loop [(18,false,ci)] (mq [4,5,18,23,111,191]) (sq (s0 (cn lf lf)) (sq (bk (s0 (bk (.loop [(19,false,ci)] (mq [4,5,19,23,117,191]) (sq (s0 (cn lf lf)) (sq (.blockJ [] (mq [4,5,20,23,123,191]) (sq (.join [(148,false,cB)] (mq [123,149]) (rb 26 [63487]) (cn lf lf)) (sq (rb 17 [16879]) (sq (rb 7 []) (.join [(190,false,cB)] (mq [169,191]) r0 (cn (s0 lf) lf)))))) r0)))))) r0))))))))))))))) r0))))) (s0 lf))))))
def F3(p0:Int)(p1:Sl)(h:Hp)(Q:Bool->Hp->Prop):Prop:=ZB (decide ((↑p1.len:Int)>120)) (Q true h) (cx 9 [vi p0] ZAK h λ(x1:ZDY) h1=>cx 8 [ZAK.enc x1] cP h1 λp1_1 h2=>cx 9 [vi p0] ZAK h2 λ(x2:ZDY) h3=>cx 10 [ZAK.enc x2] cP h3 λp2 h4=>Ze 0 h4 λ(J1:Int->Hp->Prop) (n1:Int) h5=>ZT (λ(t1:Bool) h6=>ZB t1 (cx 11 [vp p1_1] cSl h6 λ(s1:Sl) h7=>ZM p2 λa1=>ZC cSl ⟨a1.block,a1.off+3,none⟩ h7 λ(s2:Sl)=>cx 12 [vp p1_1] cSl h7 λ(s3:Sl) h8=>Ze ({a:=none,len:=0,cap:=0:Sl},{a:=none,len:=0,cap:=0:Sl},0) h8 λ(J2:Sl×Sl×Int->Hp->Prop) (z1:Sl×Sl×Int) h9=>ZB (decide (z1.snd.snd<(↑s3.len:Int))) (Zb s3.a s3.len z1.snd.snd λa2=>ZC Zx (a2.add (z1.snd.snd.toNat*10)) h9 λ(x3:Ask)=>ZT (λ(t2:Bool) h10=>ZB t2 (Q false h10) (ZM p2 λa3=>ZC cSl ⟨a3.block,a3.off+3,none⟩ h10 λ(s4:Sl)=>Zb s4.a s4.len x3.Bond λa4=>ZC cP (a4.add (x3.Bond.toNat*1)) h10 λp3=>cx 13 [vp p3,vi (i64.wrap (3-x3.Side)),vi x3.Qty] (ZV [Zm,cB]) h10 λ(z2:ZBL×Bool) h11=>ZJ (Obj.cells ⟨eWide z2.fst⟩ 52) h11 λk1 h12=>ZR Zm 52 16 z1.fst.a z1.fst.len z1.fst.cap (sj k1) 1 h12 λp4 (k2 k3:Nat) h13=>ZJ (Obj.cells ⟨[.bool z2.snd]⟩ 4) h13 λk4 h14=>ZR cB 4 1 z1.snd.fst.a z1.snd.fst.len z1.snd.fst.cap (sj k4) 1 h14 λp5 (k5 k6:Nat) h15=>J2 (⟨p4,k2,k3⟩,⟨p5,k5,k6⟩,i64.wrap (z1.snd.snd+1)) h15)) λ(J3:Bool->Hp->Prop)=>ZB (decide (x3.Bond<0)) (J3 true h9) (J3 (decide (x3.Bond>=(↑s2.len:Int))) h9)) (Zb p1.a p1.len n1 λa5=>ZC ZCG (a5.add (n1.toNat*10)) h9 λ(x4:ZDL)=>cx 14 [vp p1_1,ZCG.enc x4] cSl h9 λ(s5:Sl) h16=>Zb p1.a p1.len n1 λa6=>ZC ZCG (a6.add (n1.toNat*10)) h16 λ(x5:ZDL)=>cx 15 [vp p2,ZCG.enc x5] (ZV []) h16 λu1 h17=>cx 11 [vp p1_1] cSl h17 λ(s6:Sl) h18=>Ze (↑s1.len:Int) h18 λ(J4:Int->Hp->Prop) (n2:Int) h19=>ZB (decide (n2<(↑s6.len:Int))) (Ze 0 h19 λ(J5:Int->Hp->Prop) (n3:Int) h20=>ZB (decide (n3<(↑s3.len:Int))) (ZT (λu2 h21=>J5 (i64.wrap (n3+1)) h21) λ(J6:PUnit->Hp->Prop)=>ZT (λ(t3:Bool) h22=>ZB t3 (J6 PUnit.unit h22) (Zb s6.a s6.len n2 λa7=>Zb s6.a s6.len n2 λa8=>ZC ci ⟨(a7.add (n2.toNat*8)).block,(a7.add (n2.toNat*8)).off+4,none⟩ h22 λ(n4:Int)=>ZC ci ⟨(a8.add (n2.toNat*8)).block,(a8.add (n2.toNat*8)).off+5,none⟩ h22 λ(n5:Int)=>cx 16 [vi n4,vi n5] (ZV [Zm,cB]) h22 λ(z3:ZBL×Bool) h23=>Zb z1.fst.a z1.fst.len n3 λa9=>ZC Zm (a9.add (n3.toNat*2)) h23 λ(x6:ZBL)=>cx 17 [Zm.enc z3.fst,Zm.enc x6] ci h23 λ(n6:Int) h24=>ZT (λ(t4:Bool) h25=>ZB t4 (Q false h25) (J6 PUnit.unit h25)) λ(J7:Bool->Hp->Prop)=>Zb s3.a s3.len n3 λa10=>ZC ci ⟨(a10.add (n3.toNat*10)).block,(a10.add (n3.toNat*10)).off+3,none⟩ h24 λ(n7:Int)=>ZB (n7==1) (ZB (decide (n6>0)) (J7 true h24) (Zb s3.a s3.len n3 λa11=>ZC ci ⟨(a11.add (n3.toNat*10)).block,(a11.add (n3.toNat*10)).off+3,none⟩ h24 λ(n8:Int)=>ZB (n8==2) (J7 (decide (n6<0)) h24) (J7 false h24))) (Zb s3.a s3.len n3 λa12=>ZC ci ⟨(a12.add (n3.toNat*10)).block,(a12.add (n3.toNat*10)).off+3,none⟩ h24 λ(n9:Int)=>ZB (n9==2) (J7 (decide (n6<0)) h24) (J7 false h24)))) λ(J8:Bool->Hp->Prop)=>Zb s6.a s6.len n2 λa13=>ZC ci ⟨(a13.add (n2.toNat*8)).block,(a13.add (n2.toNat*8)).off+6,none⟩ h20 λ(n10:Int)=>ZB (n10==0) (J8 true h20) (Zb s3.a s3.len n3 λa14=>Zb s6.a s6.len n2 λa15=>ZC ci ((a14.add (n3.toNat*10)).add 0) h20 λ(n11:Int)=>ZC ci ⟨(a15.add (n2.toNat*8)).block,(a15.add (n2.toNat*8)).off+6,none⟩ h20 λ(n12:Int)=>ZB (n11 != n12) (J8 true h20) (Zb z1.snd.fst.a z1.snd.fst.len n3 λa16=>ZC cB (a16.add (n3.toNat*1)) h20 λ(t5:Bool)=>J8 (!t5) h20))) (J4 (i64.wrap (n2+1)) h20)) (J1 (i64.wrap (n1+1)) h19))) (ZB (!p1_1.isNone) (cx 18 [] cB h6 Q) (Q false h6))) λ(J9:Bool->Hp->Prop)=>ZB (!p1_1.isNone) (J9 (decide (n1<(↑p1.len:Int))) h5) (J9 false h5))
theorem c3{p0 p1 h Q}(r:F3 p0 p1 h Q):cx 3 [vi p0,.slice p1.a p1.len p1.cap] (cB) h Q:=cc a3 n3 r
theorem c21{d:ZE}(r:ZB (decide (d.ID>=1)) (ZB (decide (d.Seq>=1)) (ZB (decide (d.Price>=1)) (ZB (decide (d.Price<=1000000)) (ZB (decide (d.Left>=1)) (ZB (decide (d.Left<=1000000)) (ZB (decide (d.Owner>=0)) (cx 59 [vi d.Side] cB h B) (B false h)) (B false h)) (B false h)) (B false h)) (B false h)) (B false h)) (B false h)):cx 21 [ZF.enc d] (cB) h B:=cc (mkA 2 [(3,1),(7,1),(12,1),(17,1),(22,1),(27,1),(32,1),(37,1)] 0 (bc [(1,ZF)])) (dh 18 []) r
theorem c59(r:ZB (i==1) (B true h) (B (i==2) h)):cx 59 [vi i] (cB) h B:=cd0 (dh 18 []) r
variable {d:FnV}
theorem c299(I:cx 343 [.slice s.a s.len s.cap,.func (Fn.func d.g) d.first d.cap] ci h λ(w:Int) h1=>ZB (w==(-1)) (S s h1) (Ze (w,i64.wrap (w+1)) h1 λ(D:Int×Int->Hp->Prop) z1 h2=>ZB (decide (z1.snd<s.len)) (ZT (λ(N:Int) h3=>D (N,i64.wrap (z1.snd+1)) h3) λA=>Zb s.a s.len z1.snd λE=>ZC ZP (E.add (z1.snd.toNat*6)) h2 λ(C:Za)=>ZBe TP d.g d.first d.cap [ZP.enc C] cB h2 λ(P:Bool) h4=>ZB (!P) (Zb s.a s.len z1.fst λF=>ZS ZP (F.add (z1.fst.toNat*6)) C h4 λG=>A (i64.wrap (z1.fst+1)) G) (A z1.fst h4)) (Z3 s.len s.cap (some z1.fst) none λ(k1 L:Nat)=>ZEM ZP {ID:=0,Ask:=0,Dealer:=0,Price:=0,Expires:=0,Live:=false:Za} (Zh s.a k1 s.cap 6) (L-k1) h2 λH=>Z3 s.len s.cap none (some z1.fst) λ(r M:Nat)=>S ⟨Zh s.a r s.cap 6,M-r,s.cap-r⟩ H))):cx 299 [.slice s.a s.len s.cap,.func (Fn.func d.g) d.first d.cap] (cSl) h S:=cc ({prom:=128,refs:=[],dyn:=0,bcd:=λs=>match s with|7=>some (ZP)|_=>none,fnv:=λs=>match s with|1=>some (cB)|9=>some (cB)|26=>some (cB)|_=>none,eqs:=ZB8 eqL,cdc:=ZKt,res:=ZLq,pure:=ZB8 [193],pan:=ZB8 [192,276]}) (dh 0x4882a2598113d530144d2 [.l [(5,false,ci),(6,false,ci)] 68719411424,.k [(5,false,ci)] 68715282592]) I
theorem c374(r:cx 228 [.slice s.a s.len s.cap,.func (Fn.func d.g) d.first d.cap] ci h λ(w:Int) h1=>B (decide (w>=0)) h1):cx 374 [.slice s.a s.len s.cap,.func (Fn.func d.g) d.first d.cap] (cB) h B:=cc ({prom:=0,refs:=[],dyn:=0,bcd:=λs=>match s with|_=>none,fnv:=λs=>match s with|1=>some (cB)|6=>some (cB)|_=>none,eqs:=ZB8 eqL,cdc:=ZKt,res:=ZLq,pure:=ZB8 [193],pan:=ZB8 [192,276]}) (dh 18 []) r
theorem c123(r:cx 196 [.slice s.a s.len s.cap,.func (Fn.func d.g) d.first d.cap] ci h λ(w:Int) h1=>B (decide (w>=0)) h1):cx 123 [.slice s.a s.len s.cap,.func (Fn.func d.g) d.first d.cap] (cB) h B:=cc ({prom:=0,refs:=[],dyn:=0,bcd:=λs=>match s with|_=>none,fnv:=λs=>match s with|1=>some (cB)|6=>some (cB)|_=>none,eqs:=ZB8 eqL,cdc:=ZKt,res:=ZLq,pure:=ZB8 [193],pan:=ZB8 [192,276]}) (dh 18 []) r
theorem c124(r:cx 197 [.slice s.a s.len s.cap,.func (Fn.func d.g) d.first d.cap] ci h λ(w:Int) h1=>B (decide (w>=0)) h1):cx 124 [.slice s.a s.len s.cap,.func (Fn.func d.g) d.first d.cap] (cB) h B:=cc ({prom:=0,refs:=[],dyn:=0,bcd:=λs=>match s with|_=>none,fnv:=λs=>match s with|1=>some (cB)|6=>some (cB)|_=>none,eqs:=ZB8 eqL,cdc:=ZKt,res:=ZLq,pure:=ZB8 [193],pan:=ZB8 [192,276]}) (dh 18 []) r
theorem c103(w:cx 180 [vi i] cB h λ(A:Bool) h1=>cx 180 [vi j] cB h1 λ(r:Bool) h2=>ZB A (ZB r (Q 0 h2) (Q (-1) h2)) (ZB r (Q 1 h2) (ZB (decide (i<j)) (Q (-1) h2) (ZB (decide (i>j)) (Q 1 h2) (Q 0 h2))))):cx 103 [vi i,vi j] ci h Q:=cd0 (dh 0x100a26028980a26020144e2692 []) w
theorem c180(r:B (i != i) h):cx 180 [vi i] (cB) h B:=cd0 (dh 18 []) r
theorem c326(E:Ze (0:Int) h λC w r=>ZB (decide (w<s.len)) (Zb s.a s.len w λD=>ZC ci (D.add (w.toNat*1)) r λ(A:Int)=>ZB (A != 0) (Q A r) (C (i64.wrap (w+1)) r)) (Q 0 r)):cx 326 [.slice s.a s.len s.cap] ci h Q:=cd0 (dh 0x22028956046b54d2 [.l [(8,false,ci)] 130852]) E
theorem c327(w:cx 359 [vi i] cB h λ(A:Bool) h1=>cx 359 [vi j] cB h1 λ(r:Bool) h2=>ZB A (ZB r (Q 0 h2) (Q (-1) h2)) (ZB r (Q 1 h2) (ZB (decide (i<j)) (Q (-1) h2) (ZB (decide (i>j)) (Q 1 h2) (Q 0 h2))))):cx 327 [vi i,vi j] ci h Q:=cd0 (dh 0x100a26028980a26020144e2692 []) w
theorem c359(r:B (i != i) h):cx 359 [vi i] (cB) h B:=cd0 (dh 18 []) r
theorem c365(w:cx 379 [.int .u64 i] cB h λ(A:Bool) h1=>cx 379 [.int .u64 j] cB h1 λ(r:Bool) h2=>ZB A (ZB r (Q 0 h2) (Q (-1) h2)) (ZB r (Q 1 h2) (ZB (decide (i<j)) (Q (-1) h2) (ZB (decide (i>j)) (Q 1 h2) (Q 0 h2))))):cx 365 [.int .u64 i,.int .u64 j] ci h Q:=cd0 (dh 0x100a26028980a26020144e2692 []) w
theorem c379(r:B (i != i) h):cx 379 [.int .u64 i] (cB) h B:=cd0 (dh 18 []) r
theorem c364{Q:Int×Int->Hp->Prop}(r:(0:Int)<=32/\(0:Int)<=32/\(0:Int)<=32/\(0:Int)<=32/\(0:Int)<=32/\Q (u64.wrap (u64.wrap (u64.wrap (ZBK u64 i 32*ZBK u64 j 32)+ZBK u64 (u64.wrap (u64.wrap (ZBK u64 i 32*ZCe u64 j 4294967295)+ZBK u64 (u64.wrap (ZCe u64 i 4294967295*ZCe u64 j 4294967295)) 32)) 32)+ZBK u64 (u64.wrap (ZCe u64 (u64.wrap (u64.wrap (ZBK u64 i 32*ZCe u64 j 4294967295)+ZBK u64 (u64.wrap (ZCe u64 i 4294967295*ZCe u64 j 4294967295)) 32)) 4294967295+u64.wrap (ZCe u64 i 4294967295*ZBK u64 j 32))) 32),u64.wrap (i*j)) h):cx 364 [.int .u64 i,.int .u64 j] (ZV [cI .u64,cI .u64]) h Q:=cd0 (dh 19634136210 []) r
theorem c223{d:Ask}(r:cx 103 [vi d.ID,vi i] ci h Q):cx 223 [Zx.enc d,vi i] ci h Q:=cc (mkA 4 [(5,2)] 0 (bc [(2,Zx)])) (dh 18 []) r
variable {d:Za}
theorem c225(r:cx 103 [vi d.ID,vi i] ci h Q):cx 225 [ZP.enc d,vi i] ci h Q:=cc (mkA 4 [(5,2)] 0 (bc [(2,ZP)])) (dh 18 []) r
theorem c229{d:ZE}(r:ZC ci e h λ(w:Int)=>B (d.ID==w) h):cx 229 [ZF.enc d,vp (some e)] (cB) h B:=cc (mkA 4 [(4,2)] 0 (bc [(2,ZF)])) (dh 18 []) r
theorem c231{d:Due}(r:ZC ci e h λ(w:Int)=>ZB (d.Kind==w) (ZC ci f h λ(A:Int)=>B (d.ID==A) h) (B false h)):cx 231 [ZAs.enc d,vp (some e),vp (some f)] (cB) h B:=cc (mkA 8 [(5,3),(10,3)] 0 (bc [(3,ZAs)])) (dh 18 []) r
theorem c284{d e:Due}(w:cx 103 [vi d.Tick,vi e.Tick] ci h λ(A:Int) h1=>cx 327 [vi d.Kind,vi e.Kind] ci h1 λ(C:Int) h2=>cx 103 [vi d.ID,vi e.ID] ci h2 λ(n3:Int) h3=>ZJ (Obj.cells ⟨[vi A,vi C,vi n3]⟩ 3) h3 λk1 r=>cx 326 [.slice (sj k1) 3 3] ci r Q):cx 284 [ZAs.enc d,ZAs.enc e] ci h Q:=cc (mkA 12 [(5,2),(7,3),(10,2),(12,3),(15,2),(17,3)] 0 (bc [(2,ZAs),(3,ZAs)])) (dh 410 [.o 18 [15855]]) w
theorem c289(r:ZC ci e h λ(w:Int)=>ZB (d.Ask==w) (ZB d.Live (ZC ci f h λ(A:Int)=>B (decide (d.Expires>A)) h) (B false h)) (B false h)):cx 289 [ZP.enc d,vp (some e),vp (some f)] (cB) h B:=cc (mkA 8 [(5,3),(10,3),(14,3)] 0 (bc [(3,ZP)])) (dh 18 []) r
theorem c298(r:ZC ci e h λ(w:Int)=>B (d.Ask==w) h):cx 298 [ZP.enc d,vp (some e)] (cB) h B:=cc (mkA 4 [(4,2)] 0 (bc [(2,ZP)])) (dh 18 []) r
theorem c300(r:ZC ci e h λ(w:Int)=>B (d.Ask==w) h):cx 300 [ZP.enc d,vp (some e)] (cB) h B:=cc (mkA 4 [(4,2)] 0 (bc [(2,ZP)])) (dh 18 []) r
theorem c202{d:Addr}(r:ZC ci d h λ(w:Int)=>cx 203 [vp p,vi w] (ZV [ZF,cB]) h λ(A:ZE×Bool) h1=>B A.snd h1):cx 202 [vp p,vp (some d)] (cB) h B:=cc (mkA 16 [] 0 (bc [(4,ZF)])) (dh 146 []) r
theorem c118{d:Bond}(r:cx 119 [Zs.enc d] cB h λ(w:Bool) h1=>B (!w) h1):cx 118 [Zs.enc d] (cB) h B:=cc (mkA 2 [] 0 (bc [(1,Zs)])) (dh 18 []) r
theorem c121{d:Z8}(r:ZC (cI u64) e h λ(w:Int)=>cx 122 [Zu.enc d,.int .u64 w] cB h λ(A:Bool) h1=>B (!A) h1):cx 121 [Zu.enc d,vp (some e)] (cB) h B:=cc (mkA 4 [] 0 (bc [(2,Zu)])) (dh 18 []) r
variable {d:ZE}
theorem c371(r:ZC ZF e h λ(C:ZE)=>ZC ci f h λ(w:Int)=>cx 372 [ZF.enc C,ZF.enc d,vi w] cB h λ(A:Bool) h1=>B (!A) h1):cx 371 [ZF.enc d,vp (some e),vp (some f)] (cB) h B:=cc (mkA 8 [] 0 (bc [(3,ZF)])) (dh 18 []) r
theorem c375(r:ZC ci (e.add 0) h λ(w:Int)=>ZB (d.ID==w) (B true h) (ZC ci ⟨e.block,e.off+1,none⟩ h λ(A:Int)=>B (d.Seq==A) h)):cx 375 [ZF.enc d,vp (some e)] (cB) h B:=cc (mkA 4 [(4,2),(10,2)] 0 (bc [(2,ZF)])) (dh 18 []) r
theorem c381(r:ZC ci (e.add 0) h λ(w:Int)=>ZB (d.ID==w) (B true h) (ZC ci ⟨e.block,e.off+1,none⟩ h λ(A:Int)=>B (d.Seq==A) h)):cx 381 [ZF.enc d,vp (some e)] (cB) h B:=cc (mkA 4 [(4,2),(10,2)] 0 (bc [(2,ZF)])) (dh 18 []) r
theorem c148{d:Za}(r:ZC ci e h λ(w:Int)=>ZB (d.Dealer==w) (B d.Live h) (B false h)):cx 148 [ZP.enc d,vp (some e)] (cB) h B:=cc (mkA 4 [(4,2),(9,2)] 0 (bc [(2,ZP)])) (dh 18 []) r
theorem c13{Q:ZBL×Bool->Hp->Prop}(H:ZT (λ(L:Bool) h1=>ZB L (Q ({Hi:=0,Lo:=0:ZBL},false) h1) (cx 47 [vp p,vi i] cSl h1 λ(s1:Sl) h2=>Ze (j,{Hi:=0,Lo:=0:ZBL},(0:Int)) h2 λG r E=>ZT (λ(M:Bool) h4=>ZB M (Zb s1.a s1.len r.snd.snd λC=>ZC ci ⟨(C.add (r.snd.snd.toNat*6)).block,(C.add (r.snd.snd.toNat*6)).off+5,none⟩ h4 λ(F:Int)=>Zb s1.a s1.len r.snd.snd λD=>ZC ci ⟨(D.add (r.snd.snd.toNat*6)).block,(D.add (r.snd.snd.toNat*6)).off+4,none⟩ h4 λ(I:Int)=>cx 16 [vi I,vi (ZGd r.fst F)] (ZV [Zm,cB]) h4 λ(N:ZBL×Bool) h5=>cx 48 [Zm.enc r.snd.fst,Zm.enc N.fst] (ZV [Zm,cB]) h5 λ(z3:ZBL×Bool) h6=>G (i64.wrap (r.fst-ZGd r.fst F),z3.fst,i64.wrap (r.snd.snd+1)) h6) (Q (r.snd.fst,true) h4)) λw=>ZB (decide (r.snd.snd<s1.len)) (w (decide (r.fst>0)) E) (w false E))) λA=>ZB (decide (j<1)) (A true h) (cx 46 [vp p,vi i] ci h λ(n3:Int) h7=>A (decide (n3<j)) h7)):cx 13 [vp p,vi i,vi j] (ZV [Zm,cB]) h Q:=cc (mkA 4672 [] 0 (bc [(6,Zm),(9,Zm),(12,Zm)])) (dh 0x44a4ab021cf54d201439a [.j [(22,false,cB)] 8372224,.l [(2,false,ci),(9,true,Zm),(10,false,ci)] 9223372036720573956,.j [(34,false,cB)] 34225520640]) H
theorem c16{Q:ZBL×Bool->Hp->Prop}(F:ZT (λ(G:Bool) h1=>ZB G (Q ({Hi:=0,Lo:=0:ZBL},false) h1) (Ze ({Hi:=0,Lo:=0:ZBL},(62:Int)) h1 λE r C=>ZB (decide (r.snd>=0)) (ZT (λ(H:ZBL) h3=>E (H,i64.wrap (r.snd-1)) h3) λw=>cx 48 [Zm.enc r.fst,Zm.enc r.fst] (ZV [Zm,cB]) C λ(D:ZBL×Bool) h4=>0<=u64.wrap r.snd/\ZB (ZCe i64 (ZBK i64 i (u64.wrap r.snd)) (1:Int)==1) (cx 48 [Zm.enc D.fst,.agg ⟨[.int .u64 0,.int .u64 (u64.wrap j)]⟩] (ZV [Zm,cB]) h4 λ(z3:ZBL×Bool) h5=>w z3.fst h5) (w D.fst h4)) (Q (r.fst,true) C))) λA=>ZB (decide (i<0)) (A true h) (A (decide (j<0)) h)):cx 16 [vi i,vi j] (ZV [Zm,cB]) h Q:=cc (mkA 80 [] 0 (bc [(4,Zm),(6,Zm)])) (dh 0x88312cc089ea9a01439a [.j [(13,false,cB)] 16128,.l [(6,true,Zm),(7,false,ci)] 549755781312,.k [(6,true,Zm)] 549755289664]) F
theorem c17{d e:ZBL}(w:ZB (d.Hi==e.Hi&&d.Lo==e.Lo) (Q 0 h) (ZT (λ(A:Bool) h1=>ZB A (Q (-1) h1) (Q 1 h1)) λr=>ZB (decide (d.Hi<e.Hi)) (r true h) (ZB (d.Hi==e.Hi) (r (decide (d.Lo<e.Lo)) h) (r false h)))):cx 17 [Zm.enc d,Zm.enc e] ci h Q:=cc (mkA 12 [(10,2),(12,3),(16,2),(18,3),(22,2),(24,3)] 0 (bc [(2,Zm),(3,Zm)])) (dh 1102225425754 [.j [(9,false,cB)] 536870400]) w
theorem c42{d:ZDY}(C:cx 74 [ZAK.enc d] cB h λ(H:Bool) h1=>ZB (!H) (O none h1) (ZJ (Obj.cells ⟨[]⟩ 108) h1 λk1 r=>ZR Zu 108 24 (sj k1) 0 0 d.Parties.a d.Parties.len r λp1 (D E:Nat) h3=>ZC2 d.Parties.len d.Parties.len 8 (ZJ (Obj.cells {toList:=Z0 (d.Parties.len:Int).toNat [vi 0]:Array Value} 2) h3 λF w=>ZJ (Obj.cells ⟨[.slice p1 D E,.slice (sj F) (d.Parties.len:Int).toNat (d.Parties.len:Int).toNat]⟩ 183) w λG A=>O (sj G) A))):cx 42 [ZAK.enc d] (cP) h O:=cc (mkA 2 [(7,1),(10,1)] 0 (bc [(1,ZAK)])) (dh 106965146 [.o 11 [118]]) C
theorem c46(F:Ze ((0:Int),(0:Int)) h λC r w=>ZM p λD=>ZC cSl (D.add 0) w λ(s1:Sl)=>ZB (decide (r.snd<s1.len)) (ZT (λ(G:Int) h2=>C (G,i64.wrap (r.snd+1)) h2) λA=>ZM p λE=>ZC cSl (E.add 0) w λ(s2:Sl)=>Zb s2.a s2.len r.snd λa3=>ZC ci ⟨(a3.add (r.snd.toNat*6)).block,(a3.add (r.snd.toNat*6)).off+3,none⟩ w λ(H:Int)=>ZB (H==i) (ZM p λa4=>ZC cSl (a4.add 0) w λ(s3:Sl)=>Zb s3.a s3.len r.snd λa5=>ZC ci ⟨(a5.add (r.snd.toNat*6)).block,(a5.add (r.snd.toNat*6)).off+5,none⟩ w λ(n3:Int)=>A (i64.wrap (r.fst+n3)) w) (A r.fst w)) (Q r.fst w)):cx 46 [vp p,vi i] ci h Q:=cd0 (dh 0x883166044f54d2 [.l [(5,false,ci),(6,false,ci)] (mq [5,36]),.k [(5,false,ci)] 68719411232]) F
theorem c48{d e:ZBL}{Q:ZBL×Bool->Hp->Prop}(C:ZT (λ(A:Int) h1=>ZT (λ(D:Bool) h2=>ZB D (Q ({Hi:=0,Lo:=0:ZBL},false) h2) (Q ({Hi:=u64.wrap (u64.wrap (d.Hi+e.Hi)+A),Lo:=u64.wrap (d.Lo+e.Lo):ZBL},true) h2)) λr=>ZB (decide (u64.wrap (d.Hi+e.Hi)<d.Hi)) (r true h1) (r (decide (u64.wrap (u64.wrap (d.Hi+e.Hi)+A)<u64.wrap (d.Hi+e.Hi))) h1)) λw=>ZB (decide (u64.wrap (d.Lo+e.Lo)<d.Lo)) (w 1 h) (w 0 h)):cx 48 [Zm.enc d,Zm.enc e] (ZV [Zm,cB]) h Q:=cc ({prom:=28,refs:=[(11,2),(13,3),(17,2),(20,2),(22,3),(26,2)],dyn:=0,bcd:=λs=>match s with|2=>some (Zm)|3=>some (Zm)|4=>some (Zm)|_=>none,eqs:=ZB8 eqL,cdc:=ZKt,res:=ZLq,pure:=ZB8 [193],pan:=ZB8 [192,276]}) (dh 0x8050e692062c92 [.j [(7,false,cI .u64)] 983168,.j [(37,false,cB)] (mq [32,38])]) C
theorem c74{d:ZDY}(I:ZT (λ(L:Bool) h1=>ZB L (B false h1) (Ze (0:Int) h1 λE A D=>ZB (decide (A<d.Bonds.len)) (Zb d.Bonds.a d.Bonds.len A λG=>ZC Zs (G.add (A.toNat*7)) D λ(N:Bond)=>cx 125 [Zs.enc N] cB D λ(M:Bool) h3=>ZB (!M) (B false h3) (E (i64.wrap (A+1)) h3)) (Ze (0:Int) D λF C r=>ZB (decide (C<d.Parties.len)) (Zb d.Parties.a d.Parties.len C λH=>ZC Zu (H.add (C.toNat*3)) r λ(P:Z8)=>cx 126 [Zu.enc P,.slice d.Parties.a d.Parties.len d.Parties.cap] cB r λ(t3:Bool) h5=>ZB (!t3) (B false h5) (F (i64.wrap (C+1)) h5)) (ZB (decide (d.Look>=1)) (ZB (decide (d.Look<=1000)) (ZB (decide (d.Beat>=1)) (B (decide (d.Beat<=1000)) r) (B false r)) (B false r)) (B false r))))) λw=>ZB (decide ((d.Bonds.len:Int)<1)) (w true h) (ZB (decide ((d.Bonds.len:Int)>4)) (w true h) (ZB (decide ((d.Parties.len:Int)<1)) (w true h) (w (decide ((d.Parties.len:Int)>8)) h)))):cx 74 [ZAK.enc d] (cB) h B:=cc (mkA 2 [(5,1),(10,1),(16,1),(22,1),(28,1),(34,1),(42,1),(48,1),(53,1),(57,1),(61,1),(66,1),(71,1)] 0 (bc [(1,ZAK)])) (dh 0x440533ac089ea99014558113d5301439a [.j [(26,false,cB)] 134217696,.l [(3,false,ci)] 2198889037836,.l [(4,false,ci)] 144112989052600340,.o 9 [111]]) I
theorem c77{e:ZE}(r:ZB (d.Price != e.Price) (cx 127 [vi d.Side,vi d.Price,vi e.Price] cB h B) (B (decide (d.Seq<e.Seq)) h)):cx 77 [ZF.enc d,ZF.enc e] (cB) h B:=cc (mkA 12 [(5,2),(7,3),(10,2),(12,2),(14,3),(17,2),(19,3)] 0 (bc [(2,ZF),(3,ZF)])) (dh 4204698 []) r
theorem c97{Q:ZE×Bool->Hp->Prop}(F:cx 168 [vp p,vi i] ci h λ(r:Int) h1=>ZB (decide (r<0)) (Q ({ID:=0,Seq:=0,Owner:=0,Side:=0,Price:=0,Left:=0:ZE},false) h1) (ZM p λA=>ZC cSl (A.add 0) h1 λ(s1:Sl)=>Zb s1.a s1.len r λC=>ZC ZF (C.add (r.toNat*6)) h1 λ(V:ZE)=>ZM p λa3=>ZM p λa4=>ZC cSl (a3.add 0) h1 λ(s2:Sl)=>Z3 s2.len s2.cap none (some r) λ(k1 G:Nat)=>ZC cSl (a4.add 0) h1 λ(s3:Sl)=>Z3 s3.len s3.cap (some (i64.wrap (r+1))) none λ(w H:Nat)=>ZJ (Obj.cells ⟨[]⟩ 74) h1 λI D=>ZR ZF 74 48 (sj I) 0 0 (Zh s2.a k1 s2.cap 6) (G-k1) D λp1 (L M:Nat) h3=>(h3.rds (a4.add 0) [.slice s3.a s3.len s3.cap]/\True)/\ZR ZF 74 48 p1 L M (Zh s3.a w s3.cap 6) (H-w) h3 λR (N P:Nat) h4=>ZM p λa5=>ZS cSl (a5.add 0) ⟨R,N,P⟩ h4 λE=>Q (V,true) E)):cx 97 [vp p,vi i] (ZV [ZF,cB]) h Q:=cc (mkA 144 [] 0 (bc [(4,ZF),(7,ZF)])) (dh 24058610898 [.c (.reg [(0,[]),(2,[]),(3,[]),(4,[]),(6,[]),(9,[]),(10,[]),(11,[]),(13,[]),(14,[]),(5,[]),(7,[]),(12,[]),(15,[]),(1,[]),(8,[12]),(16,[]),(17,[]),(18,[]),(19,[])])]) F
variable {d:Bond}
theorem c125(A:ZT (λ(C:Bool) h1=>ZB C (B false h1) (ZT (λ(D:Bool) h2=>ZB D (B false h2) (d.Lot≠0/\B (decide (i64.wrap (d.Max-d.Max.tmod d.Lot)>=d.Min)) h2)) λr=>cx 198 [vi d.Lot,vi 1,vi 1000000] cB h1 λ(t3:Bool) h3=>ZB (!t3) (r true h3) (cx 198 [vi d.Min,vi 1,vi 1000000] cB h3 λ(t4:Bool) h4=>ZB (!t4) (r true h4) (cx 198 [vi d.Max,vi d.Min,vi 1000000] cB h4 λ(t5:Bool) h5=>r (!t5) h5)))) λw=>cx 198 [vi d.Tick,vi 1,vi 1000000] cB h λ(E:Bool) h6=>ZB (!E) (w true h6) (cx 198 [vi d.Low,vi 1,vi 1000000] cB h6 λ(F:Bool) h7=>ZB (!F) (w true h7) (cx 198 [vi d.High,vi d.Low,vi 1000000] cB h7 λ(G:Bool) h8=>w (!G) h8))):cx 125 [Zs.enc d] (cB) h B:=cc (mkA 2 [(3,1),(8,1),(14,1),(16,1),(21,1),(26,1),(32,1),(34,1),(39,1),(41,1),(43,1),(47,1)] 0 (bc [(1,Zs)])) (dh 0x660287301439a [.j [(20,false,cB)] 2097144,.j [(38,false,cB)] (mq [21,39]),.o 12 []]) A
theorem c126{d:Z8}(F:ZT (λ(H:Bool) h1=>ZB H (B false h1) (Ze (0:Int) h1 λD w A=>ZB (decide (w<64)) (ZT (λ(I:Bool) h3=>ZB I (B false h3) (D (i64.wrap (w+1)) h3)) λC=>0<=u64.wrap w/\ZB (ZCe u64 (ZBK u64 d.Asks (u64.wrap w)) (1:Int)==1) (ZB (decide (w>=(s.len:Int))) (C true A) (Zb s.a s.len w λE=>ZC ci ((E.add (w.toNat*3)).add 0) A λ(G:Int)=>C (G != 2) A)) (C false A)) (B true A))) λr=>ZB (decide (d.Role<1)) (r true h) (ZB (decide (d.Role>3)) (r true h) (ZB (d.Role != 1) (ZB (d.Asks != 0) (r true h) (ZB (d.Role != 2) (ZB (d.Cap != 0) (r true h) (ZB (decide (d.Cap<0)) (r true h) (r (decide (d.Cap>1099511627776)) h))) (ZB (decide (d.Cap<0)) (r true h) (r (decide (d.Cap>1099511627776)) h)))) (ZB (d.Role != 2) (ZB (d.Cap != 0) (r true h) (ZB (decide (d.Cap<0)) (r true h) (r (decide (d.Cap>1099511627776)) h))) (ZB (decide (d.Cap<0)) (r true h) (r (decide (d.Cap>1099511627776)) h)))))):cx 126 [Zu.enc d,.slice s.a s.len s.cap] (cB) h B:=cc (mkA 4 [(6,2),(10,2),(15,2),(19,2),(25,2),(29,2),(35,2),(40,2),(48,2)] 0 (bc [(2,Zu)])) (dh 0x880a1d58113d5301439a [.j [(43,false,cB)] (mq [6,44]),.l [(5,false,ci)] (mq [4,6,44,69]),.j [(68,false,cB)] (mq [48,69])]) F
theorem c127(r:ZB (i==1) (ZB (decide (j>l)) (B true h) (ZB (i==2) (B (decide (j<l)) h) (B false h))) (ZB (i==2) (B (decide (j<l)) h) (B false h))):cx 127 [vi i,vi j,vi l] (cB) h B:=cd0 (dh 18 []) r
theorem c150(C:ZT (λ(H:Bool) h1=>ZB H (cx 232 [vp p,vi i] ci h1 λ(D:Int) h2=>ZB (D==1) (B true h2) (cx 232 [vp p,vi i] ci h2 λ(E:Int) h3=>B (E==2) h3)) (ZT (λ(I:Bool) h4=>ZB I (cx 232 [vp p,vi i] ci h4 λ(n3:Int) h5=>B (n3==1) h5) (ZT (λ(t3:Bool) h6=>ZB t3 (cx 232 [vp p,vi i] ci h6 λ(F:Int) h7=>B (F==2) h7) (ZB (j==17) (cx 232 [vp p,vi i] ci h6 λ(G:Int) h8=>B (G==3) h8) (B false h6))) λr=>ZB (j==10) (r (j==10) h4) (ZB (j==11) (r (j==11) h4) (ZB (j==14) (r (j==14) h4) (r (j==15) h4))))) λw=>ZB (j==9) (w (j==9) h1) (ZB (j==12) (w (j==12) h1) (ZB (j==13) (w (j==13) h1) (w (j==16) h1))))) λA=>ZB (j==6) (A (j==6) h) (ZB (j==7) (A (j==7) h) (A (j==8) h))):cx 150 [vp p,vi i,vi j] (cB) h B:=cd0 (dh 0x20144142221108b0508884422c14222116a9a [.j [(8,false,cB)] 3840,.j [(22,false,cB)] 130023424,.j [(31,false,cB)] 66571993088]) C
theorem c168(E:Ze (0:Int) h λA w r=>ZM p λC=>ZC cSl (C.add 0) r λ(s1:Sl)=>ZB (decide (w<s1.len)) (ZM p λD=>ZC cSl (D.add 0) r λ(s2:Sl)=>Zb s2.a s2.len w λa3=>ZC ci ((a3.add (w.toNat*6)).add 0) r λ(F:Int)=>ZB (F==i) (Q w r) (A (i64.wrap (w+1)) r)) (Q (-1) r)):cx 168 [vp p,vi i] ci h Q:=cd0 (dh 0x880a2ac089ea9a [.l [(5,false,ci)] 67108848]) E
theorem c198(r:ZB (decide (i>=j)) (B (decide (i<=l)) h) (B false h)):cx 198 [vi i,vi j,vi l] (cB) h B:=cd0 (dh 18 []) r
theorem c232(C:ZT (λ(E:Bool) h1=>ZB E (Q 0 h1) (ZM p λw=>ZC cSl (w.add 0) h1 λ(s1:Sl)=>Zb s1.a s1.len i λA=>ZC ci ((A.add (i.toNat*3)).add 0) h1 λ(D:Int)=>Q D h1)) λr=>ZB (decide (i<0)) (r true h) (ZM p λa3=>ZC cSl (a3.add 0) h λ(s2:Sl)=>r (decide (i>=(s2.len:Int))) h)):cx 232 [vp p,vi i] ci h Q:=cd0 (dh 33637274 [.j [(15,false,cB)] 65504]) C
theorem c234(w:ZB d.Halted (Q 6 h) (cx 243 [Zs.enc d,vi i] ci h λ(r:Int) h1=>ZB (r==0) (cx 235 [Zs.enc d,vi j] ci h1 Q) (Q r h1))):cx 234 [Zs.enc d,vi i,vi j] ci h Q:=cc (mkA 8 [(8,3)] 0 (bc [(3,Zs)])) (dh 1112719501466 []) w
theorem c235(r:cx 198 [vi i,vi d.Min,vi d.Max] cB h λ(w:Bool) h1=>ZB (!w) (Q 9 h1) (d.Lot≠0/\ZB (i.tmod d.Lot != 0) (Q 8 h1) (Q 0 h1))):cx 235 [Zs.enc d,vi i] ci h Q:=cc (mkA 4 [(7,2),(9,2),(15,2)] 0 (bc [(2,Zs)])) (dh 137778775386 []) r
theorem c236{d:ZE}{Q:Sl×Sl×Int×Int->Hp->Prop}(R:cx 301 [vp p,ZF.enc d,vi i] ci h λ(M:Int) h1=>ZB (M != 0) (Q (⟨none,0,0⟩,⟨none,0,0⟩,0,M) h1) (ZT (λ(w:ZE×Sl×Sl) h2=>ZT (λu1 P=>Q (w.snd.fst,w.snd.snd,w.fst.Left,0) P) λ(F:PUnit->Hp->Prop)=>ZT (λ(t1:Bool) h4=>ZB t1 (cx 303 [vp p,ZF.enc w.fst] ci h4 λ(n2:Int) h5=>F PUnit.unit h5) (F PUnit.unit h4)) λA=>ZB (decide (w.fst.Left>0)) (ZB (i==0) (A true h2) (A (i==3) h2)) (A false h2)) λG=>Ze (d,{a:=none,len:=0,cap:=0:Sl},{a:=none,len:=0,cap:=0:Sl}) h1 λN r L=>ZB (decide (r.fst.Left>0)) (ZT (λ(z3:ZE×Sl×Sl) h7=>N (z3.fst,z3.snd.fst,z3.snd.snd) h7) λH=>cx 302 [vp p,ZF.enc r.fst,vi i] (ZV [ZF,cB]) L λ(z4:ZE×Bool) h8=>ZB (!z4.snd) (G (r.fst,r.snd.fst,r.snd.snd) h8) (ZB (z4.fst.Owner==r.fst.Owner) (cx 97 [vp p,vi z4.fst.ID] (ZV [ZF,cB]) h8 λ(z5:ZE×Bool) h9=>ZJ (Obj.cells ⟨[vi z4.fst.ID,vi z4.fst.Owner,vi z4.fst.Left]⟩ 394) h9 λk1 C=>ZR ZEz 394 24 r.snd.snd.a r.snd.snd.len r.snd.snd.cap (sj k1) 1 C λp1 (V W:Nat) h11=>H (r.fst,r.snd.fst,⟨p1,V,W⟩) h11) (ZT (λu2 D=>ZJ (Obj.cells ⟨[vi z4.fst.ID,vi r.fst.ID,vi z4.fst.Owner,vi r.fst.Owner,vi z4.fst.Price,vi (ZGd z4.fst.Left r.fst.Left),vi (i64.wrap (z4.fst.Left-ZGd z4.fst.Left r.fst.Left))]⟩ 396) D λX E=>ZR ZCX 396 56 r.snd.fst.a r.snd.fst.len r.snd.fst.cap (sj X) 1 E λp2 (Y Z:Nat) h14=>H ({ID:=r.fst.ID,Seq:=r.fst.Seq,Owner:=r.fst.Owner,Side:=r.fst.Side,Price:=r.fst.Price,Left:=i64.wrap (r.fst.Left-ZGd z4.fst.Left r.fst.Left):ZE},⟨p2,Y,Z⟩,r.snd.snd) h14) λ(I:PUnit->Hp->Prop)=>ZB (ZGd z4.fst.Left r.fst.Left==z4.fst.Left) (cx 97 [vp p,vi z4.fst.ID] (ZV [ZF,cB]) h8 λ(z6:ZE×Bool) h15=>I PUnit.unit h15) (cx 239 [vp p,vi z4.fst.ID,vi (i64.wrap (z4.fst.Left-ZGd z4.fst.Left r.fst.Left))] ci h8 λ(n3:Int) h16=>I PUnit.unit h16)))) (G (r.fst,r.snd.fst,r.snd.snd) L))):cx 236 [vp p,ZF.enc d,vi i] (ZV [cSl,cSl,ci,ci]) h Q:=cc (mkA 8208 [(23,4),(35,13),(37,4),(41,13),(45,13),(47,13),(49,13),(54,13),(56,4),(60,13),(64,13),(68,13),(70,13),(75,4),(79,4),(81,13),(83,4),(85,13),(87,4),(89,13),(92,13),(99,4),(115,4)] 0 (bc [(4,ZF),(13,ZF)])) (dh 0xcc18762898b201289811358089ecd20144d2 [.k [(4,true,ZF),(11,false,cSl),(12,false,cSl)] (mq [4,5,11,16,23,99]),.l [(4,true,ZF),(11,false,cSl),(12,false,cSl)] (mq [4,5,11,16,23,99]),.k [(4,true,ZF),(11,false,cSl),(12,false,cSl)] (mq [4,5,11,16,26,99]),.j [] (mq [59,75]),.j [] (mq [99,113]),.j [(109,false,cB)] (mq [99,110]),.o 8 []]) R
theorem c239(G:cx 168 [vp p,vi i] ci h λ(r:Int) h1=>ZB (decide (r<0)) (Q 4 h1) (ZT (λ(M:Bool) h2=>ZB M (Q 1 h2) (ZJ (Obj.cells ⟨[]⟩ 74) h2 λk1 A=>ZM p λD=>ZC cSl (D.add 0) A λ(s1:Sl)=>ZR ZF 74 48 (sj k1) 0 0 s1.a s1.len A λp1 (H I:Nat) h4=>ZM p λE=>ZS cSl (E.add 0) ⟨p1,H,I⟩ h4 λC=>ZM p λa3=>ZC cSl (a3.add 0) C λ(s2:Sl)=>Zb s2.a s2.len r λa4=>ZS ci ⟨(a4.add (r.toNat*6)).block,(a4.add (r.toNat*6)).off+5,none⟩ j C λF=>Q 0 F)) λw=>ZB (decide (j<1)) (w true h1) (ZM p λa5=>ZC cSl (a5.add 0) h1 λ(s3:Sl)=>Zb s3.a s3.len r λa6=>ZC ci ⟨(a6.add (r.toNat*6)).block,(a6.add (r.toNat*6)).off+5,none⟩ h1 λ(L:Int)=>w (decide (j>L)) h1))):cx 239 [vp p,vi i,vi j] ci h Q:=cd0 (dh 5137092053124306 [.j [(26,false,cB)] 134209536]) G
theorem c240(C:cx 232 [vp p,vi i] ci h λ(D:Int) h1=>ZB (D != 1) (Q 5 h1) (ZT (λ(F:Bool) h2=>ZB F (Q 1 h2) (Q 0 h2)) λr=>ZB (j==0) (r true h1) (ZM p λA=>ZC cSl (A.add 0) h1 λ(s1:Sl)=>Zb s1.a s1.len i λw=>ZC (cI u64) ⟨(w.add (i.toNat*3)).block,(w.add (i.toNat*3)).off+1,none⟩ h1 λ(E:Int)=>r (ZFR u64 j E != 0) h1))):cx 240 [vp p,vi i,.int .u64 j] ci h Q:=cd0 (dh 8817809041562 [.j [(25,false,cB)] 67106816]) C
theorem c243(r:cx 198 [vi i,vi d.Low,vi d.High] cB h λ(w:Bool) h1=>ZB (!w) (Q 10 h1) (d.Tick≠0/\ZB (i.tmod d.Tick != 0) (Q 7 h1) (Q 0 h1))):cx 243 [Zs.enc d,vi i] ci h Q:=cc (mkA 4 [(7,2),(9,2),(15,2)] 0 (bc [(2,Zs)])) (dh 137778775386 []) r
theorem c248(E:cx 232 [vp p,vi i] ci h λ(F:Int) h1=>ZB (F != 2) (Q 5 h1) (ZT (λ(H:Bool) h2=>ZB H (Q 1 h2) (cx 16 [vi j,vi l] (ZV [Zm,cB]) h2 λ(L:ZBL×Bool) h3=>cx 308 [Zm.enc L.fst] (ZV [ci,cB]) h3 λ(C:Int×Bool) h4=>ZM p λA=>ZC cSl ⟨A.block,A.off+1,none⟩ h4 λ(s1:Sl)=>Zb s1.a s1.len i λD=>ZC ci (D.add (i.toNat*1)) h4 λ(G:Int)=>cx 309 [vi C.fst,vi G] (ZV [ci,cB]) h4 λ(z3:Int×Bool) h5=>ZT (λ(I:Bool) h6=>ZB I (Q 15 h6) (ZM p λa3=>ZC cSl (a3.add 0) h6 λ(s2:Sl)=>Zb s2.a s2.len i λa4=>ZC ci ⟨(a4.add (i.toNat*3)).block,(a4.add (i.toNat*3)).off+2,none⟩ h6 λ(n3:Int)=>ZB (decide (z3.fst>n3)) (Q 14 h6) (Q 0 h6))) λr=>ZB (!C.snd) (r true h5) (r (!z3.snd) h5))) λw=>ZB (decide (j<1)) (w true h1) (w (decide (l<1)) h1))):cx 248 [vp p,vi i,vi j,vi l] ci h Q:=cc (mkA 512 [] 0 (bc [(9,Zm)])) (dh 0x8051301439a48050e60289a [.j [(24,false,cB)] 33030144,.j [(53,false,cB)] (mq [48,54])]) E
theorem c253(D:cx 248 [vp p,vi i,vi j,vi l] ci h λ(r:Int) h1=>ZB (r==0) (ZM p λw=>ZM p λA=>ZC cSl ⟨w.block,w.off+1,none⟩ h1 λ(s1:Sl)=>ZC cSl ⟨A.block,A.off+1,none⟩ h1 λ(s2:Sl)=>Zb s2.a s2.len i λa3=>ZC ci (a3.add (i.toNat*1)) h1 λ(E:Int)=>Zb s1.a s1.len i λa4=>ZS ci (a4.add (i.toNat*1)) (i64.wrap (E+i64.wrap (j*l))) h1 λC=>Q r C) (Q r h1)):cx 253 [vp p,vi i,vi j,vi l] ci h Q:=cd0 (dh 4408530 [.o 18 [29431]]) D
variable {d:ZE}
theorem c301(H:ZT (λ(E:ZE) h1=>ZT (λ(L:Bool) h2=>ZB L (Q 1 h2) (cx 302 [vp p,ZF.enc d,vi i] (ZV [ZF,cB]) h2 λ(P:ZE×Bool) h3=>ZT (λ(M:Bool) h4=>ZB M (Q 3 h4) (ZT (λ(t3:Bool) h5=>ZB t3 (Q 16 h5) (ZT (λ(t4:Bool) h6=>ZB t4 (Q 17 h6) (Q 0 h6)) λA=>ZB (i==2) (cx 345 [vp p,ZF.enc d,vi i] ci h5 λ(I:Int) h7=>A (decide (I<d.Left)) h7) (A false h5))) λC=>ZB (i==3) (C P.snd h4) (C false h4))) λw=>ZB (i==0) (ZM p λF=>ZC cSl (F.add 0) h3 λ(s1:Sl)=>w (decide ((s1.len:Int)>=64)) h3) (ZB (i==3) (ZM p λG=>ZC cSl (G.add 0) h3 λ(s2:Sl)=>w (decide ((s2.len:Int)>=64)) h3) (w false h3)))) λr=>ZB (decide (i<0)) (r true h1) (ZB (decide (i>4)) (r true h1) (ZB (i==4) (ZB (d.Price != 0) (r true h1) (cx 21 [ZF.enc E] cB h1 λ(t5:Bool) h8=>ZB (!t5) (r true h8) (cx 344 [vp p,vi d.ID,vi d.Seq] cB h8 r))) (cx 21 [ZF.enc E] cB h1 λ(N:Bool) h10=>ZB (!N) (r true h10) (cx 344 [vp p,vi d.ID,vi d.Seq] cB h10 r))))) λD=>ZB (i==4) (D {ID:=d.ID,Seq:=d.Seq,Owner:=d.Owner,Side:=d.Side,Price:=1,Left:=d.Left:ZE} h) (D d h)):cx 301 [vp p,ZF.enc d,vi i] ci h Q:=cc (mkA 400 [(13,7),(24,4),(36,4),(38,4),(78,4)] 0 (bc [(4,ZF),(7,ZF),(8,ZF)])) (dh 0x100a6c1438287568050e60c592 [.j [(7,true,ZF)] 14464,.j [(41,false,cB)] (mq [14,42]),.j [(49,false,cB)] (mq [49,64]),.j [(64,false,cB)] (mq [64,70]),.j [(70,false,cB)] (mq [70,82]),.o 12 [447]]) H
theorem c302{Q:ZE×Bool->Hp->Prop}(C:cx 307 [vi d.Side] ci h λ(D:Int) h1=>cx 47 [vp p,vi D] cSl h1 λ(s1:Sl) h2=>ZT (λ(E:Bool) h3=>ZB E (Q ({ID:=0,Seq:=0,Owner:=0,Side:=0,Price:=0,Left:=0:ZE},false) h3) (Zb s1.a s1.len 0 λw=>ZC ZF (w.add 0) h3 λ(G:ZE)=>Q (G,true) h3)) λr=>ZB ((s1.len:Int)==0) (r true h2) (Zb s1.a s1.len 0 λA=>ZC ZF (A.add 0) h2 λ(H:ZE)=>cx 346 [ZF.enc d,vi i,ZF.enc H] cB h2 λ(F:Bool) h4=>r (!F) h4)):cx 302 [vp p,ZF.enc d,vi i] (ZV [ZF,cB]) h Q:=cc (mkA 80 [(10,4)] 0 (bc [(4,ZF),(6,ZF)])) (dh 269118674 [.j [(25,false,cB)] 67092480,.o 12 []]) C
theorem c303(E:ZT (λ(H:Bool) h1=>ZB H (Q 1 h1) (ZM p λw=>ZC cSl (w.add 0) h1 λ(s1:Sl)=>ZB (decide ((s1.len:Int)>=64)) (Q 3 h1) (ZM p λA=>ZC cSl (A.add 0) h1 λ(s2:Sl)=>ZJ (Obj.cells ⟨[vi d.ID,vi d.Seq,vi d.Owner,vi d.Side,vi d.Price,vi d.Left]⟩ 74) h1 λk1 C=>ZR ZF 74 48 s2.a s2.len s2.cap (sj k1) 1 C λp1 (F G:Nat) h3=>ZM p λa3=>ZS cSl (a3.add 0) ⟨p1,F,G⟩ h3 λD=>Q 0 D))) λr=>cx 21 [ZF.enc d] cB h λ(I:Bool) h5=>ZB (!I) (r true h5) (cx 344 [vp p,vi d.ID,vi d.Seq] cB h5 r)):cx 303 [vp p,ZF.enc d] ci h Q:=cc (mkA 8 [(10,3),(12,3)] 0 (bc [(3,ZF)])) (dh 787272119174042 [.j [(15,false,cB)] 65504,.o 11 [47]]) E
theorem c304{Q:ZE×Bool->Hp->Prop}(C:cx 168 [vp p,vi i] ci h λ(r:Int) h1=>ZB (decide (r<0)) (Q ({ID:=0,Seq:=0,Owner:=0,Side:=0,Price:=0,Left:=0:ZE},false) h1) (ZM p λw=>ZC cSl (w.add 0) h1 λ(s1:Sl)=>Zb s1.a s1.len r λA=>ZC ZF (A.add (r.toNat*6)) h1 λ(D:ZE)=>Q (D,true) h1)):cx 304 [vp p,vi i] (ZV [ZF,cB]) h Q:=cc (mkA 16 [] 0 (bc [(4,ZF)])) (dh 33637586 []) C
theorem c307(r:cx 59 [vi i] cB h λ(w:Bool) h1=>ZB (!w) (Q 0 h1) (Q (i64.wrap (3-i)) h1)):cx 307 [vi i] ci h Q:=cd0 (dh 4204698 []) r
variable {Q:Int×Bool->Hp->Prop}
theorem c308{d:ZBL}(w:ZT (λ(A:Bool) h1=>ZB A (Q (0,false) h1) (Q (i64.wrap d.Lo,true) h1)) λr=>ZB (d.Hi != 0) (r true h) (r (decide (d.Lo>=9223372036854775808)) h)):cx 308 [Zm.enc d] (ZV [ci,cB]) h Q:=cc (mkA 2 [(4,1),(8,1),(12,1)] 0 (bc [(1,Zm)])) (dh 33637274 [.j [(11,false,cB)] 4080]) w
theorem c309(w:ZT (λ(A:Bool) h1=>ZB A (Q (0,false) h1) (Q (i64.wrap (i+j),true) h1)) λr=>ZB (decide (j>0)) (ZB (decide (i>i64.wrap (9223372036854775807-j))) (r true h) (ZB (decide (j<0)) (r (decide (i<i64.wrap ((-9223372036854775808)-j))) h) (r false h))) (ZB (decide (j<0)) (r (decide (i<i64.wrap ((-9223372036854775808)-j))) h) (r false h))):cx 309 [vi i,vi j] (ZV [ci,cB]) h Q:=cd0 (dh 33637274 [.j [(23,false,cB)] 16777152]) w
theorem c344(F:Ze (0:Int) h λC w r=>ZM p λD=>ZC cSl (D.add 0) r λ(s1:Sl)=>ZB (decide (w<s1.len)) (ZT (λ(H:Bool) h2=>ZB H (B true h2) (C (i64.wrap (w+1)) h2)) λA=>ZM p λE=>ZC cSl (E.add 0) r λ(s2:Sl)=>Zb s2.a s2.len w λa3=>ZC ci ((a3.add (w.toNat*6)).add 0) r λ(G:Int)=>ZB (G==i) (A true r) (ZM p λa4=>ZC cSl (a4.add 0) r λ(s3:Sl)=>Zb s3.a s3.len w λa5=>ZC ci ⟨(a5.add (w.toNat*6)).block,(a5.add (w.toNat*6)).off+1,none⟩ r λ(n3:Int)=>A (n3==j) r)) (B false r)):cx 344 [vp p,vi i,vi j] (cB) h B:=cd0 (dh 0x44050eac089ea9a [.l [(7,false,ci)] (mq [6,39]),.j [(38,false,cB)] (mq [17,39])]) F
theorem c345{Q:Int->Hp->Prop}(H:Ze ((0:Int),(0:Int)) h λE r w=>ZM p λF=>ZC cSl (F.add 0) w λ(s1:Sl)=>ZB (decide (r.snd<s1.len)) (ZT (λ(I:Int) h2=>E (I,i64.wrap (r.snd+1)) h2) λA=>ZT (λ(M:Bool) h3=>ZB M (ZM p λG=>ZC cSl (G.add 0) h3 λ(s2:Sl)=>Zb s2.a s2.len r.snd λa3=>ZC ci ⟨(a3.add (r.snd.toNat*6)).block,(a3.add (r.snd.toNat*6)).off+5,none⟩ h3 λ(L:Int)=>A (i64.wrap (r.fst+L)) h3) (A r.fst h3)) λC=>ZM p λa4=>ZC cSl (a4.add 0) w λ(s3:Sl)=>Zb s3.a s3.len r.snd λa5=>ZC ZF (a5.add (r.snd.toNat*6)) w λ(P:ZE)=>cx 346 [ZF.enc d,vi i,ZF.enc P] cB w λ(N:Bool) h4=>ZB N (ZM p λa6=>ZC cSl (a6.add 0) h4 λ(s4:Sl)=>Zb s4.a s4.len r.snd λD=>ZC ci ⟨(D.add (r.snd.toNat*6)).block,(D.add (r.snd.toNat*6)).off+2,none⟩ h4 λ(n3:Int)=>C (n3 != d.Owner) h4) (C false h4)) (Q (ZGd r.fst (ZQq d.Left 0)) w)):cx 345 [vp p,ZF.enc d,vi i] ci h Q:=cc (mkA 16 [(37,4),(52,4)] 0 (bc [(4,ZF)])) (dh 0x4419b66044f54d2 [.l [(7,false,ci),(8,false,ci)] (mq [7,51]),.k [(7,false,ci)] (mq [7,8,18,51]),.j [(40,false,cB)] (mq [18,41]),.o 23 [95,1621920]]) H
theorem c346{e:ZE}(r:cx 307 [vi d.Side] ci h λ(w:Int) h1=>ZB (e.Side==w) (ZB (i==4) (B true h1) (cx 367 [vi d.Side,vi d.Price,vi e.Price] cB h1 B)) (B false h1)):cx 346 [ZF.enc d,vi i,ZF.enc e] (cB) h B:=cc (mkA 40 [(7,5),(9,3),(17,3),(19,3),(21,5)] 0 (bc [(3,ZF),(5,ZF)])) (dh 410 [.o 20 []]) r
theorem c348(w:ZT (λ(A:Bool) h1=>ZB A (Q (0,false) h1) (Q (i64.wrap (i-j),true) h1)) λr=>ZB (decide (j<0)) (ZB (decide (i>i64.wrap (9223372036854775807+j))) (r true h) (ZB (decide (j>0)) (r (decide (i<i64.wrap ((-9223372036854775808)+j))) h) (r false h))) (ZB (decide (j>0)) (r (decide (i<i64.wrap ((-9223372036854775808)+j))) h) (r false h))):cx 348 [vi i,vi j] (ZV [ci,cB]) h Q:=cd0 (dh 33637274 [.j [(23,false,cB)] 16777152]) w
theorem c367(r:cx 59 [vi i] cB h λ(w:Bool) h1=>ZB w (cx 127 [vi i,vi l,vi j] cB h1 λ(A:Bool) h2=>B (!A) h2) (B false h1)):cx 367 [vi i,vi j,vi l] (cB) h B:=cd0 (dh 18 []) r
theorem c43(L:ZT (λ(V:Bool) h1=>ZB V (O none h1) (ZC2 i i 8 (ZJ (Obj.cells {toList:=Z0 i.toNat [vi 0]:Array Value} 2) h1 λk1 E=>ZJ (Obj.cells ⟨[.slice none 0 0,.slice (sj k1) i.toNat i.toNat]⟩ 185) E λA F=>Ze (0:Int) F λD C w=>ZB (decide (C<i)) (ZC cSl ⟨A,0,none⟩ w λ(s1:Sl)=>ZC2 j j 8 (ZJ (Obj.cells {toList:=Z0 j.toNat [vi 0]:Array Value} 2) w λM G=>ZJ (Obj.cells ⟨[.slice (sj M) j.toNat j.toNat]⟩ 76) G λN H=>ZR cSl 76 24 s1.a s1.len s1.cap (sj N) 1 H λp1 (P R:Nat) h7=>ZS cSl ⟨A,0,none⟩ ⟨p1,P,R⟩ h7 λI=>D (i64.wrap (C+1)) I)) (O (sj A) w)))) λr=>ZB (decide (i<1)) (r true h) (ZB (decide (i>8)) (r true h) (ZB (decide (j<1)) (r true h) (r (decide (j>4)) h)))):cx 43 [vi i,vi j] (cP) h O:=cd0 (dh 0x8eac089ea9a01439a [.j [(20,false,cB)] 2097024,.l [(6,false,ci)] 2198989701184,.o 12 [47]]) L
theorem c92(L:Ze (0:Int) h λF r w=>ZT (λ(W:Bool) h2=>ZB W (F (i64.wrap (r+1)) h2) (ZJ (Obj.cells ⟨[]⟩ 197) h2 λk1 D=>ZM p λG=>ZC cSl (G.add 0) D λ(s1:Sl)=>Z3 s1.len s1.cap none (some r) λ(E M:Nat)=>ZR ZAs 197 24 (sj k1) 0 0 (Zh s1.a E s1.cap 3) (M-E) D λp1 (N P:Nat) h4=>ZM p λH=>ZC cSl (H.add 0) h4 λ(s2:Sl)=>Z3 s2.len s2.cap (some r) none λ(A R:Nat)=>ZM p λa3=>ZS cSl (a3.add 0) ⟨Zh s2.a A s2.cap 3,R-A,s2.cap-A⟩ h4 λI=>S ⟨p1,N,P⟩ I)) λC=>ZM p λa4=>ZC cSl (a4.add 0) w λ(s3:Sl)=>ZB (decide (r<s3.len)) (ZM p λa5=>ZC cSl (a5.add 0) w λ(s4:Sl)=>Zb s4.a s4.len r λa6=>ZC ci ((a6.add (r.toNat*3)).add 0) w λ(V:Int)=>C (decide (V<=i)) w) (C false w)):cx 92 [vp p,vi i] (cSl) h S:=cd0 (dh 80376088881874 [.l [(5,false,ci)] 268435360,.j [(25,false,cB)] 67108736]) L
theorem c93{Q:Ask×Bool->Hp->Prop}(C:cx 163 [vp p,vi i] ci h λ(r:Int) h1=>ZB (decide (r<0)) (Q ({ID:=0,Client:=0,Bond:=0,Side:=0,Qty:=0,Dealers:=0,Ends:=0,Until:=0,State:=0,Hit:=0:Ask},false) h1) (ZM p λw=>ZC cSl (w.add 0) h1 λ(s1:Sl)=>Zb s1.a s1.len r λA=>ZC Zx (A.add (r.toNat*10)) h1 λ(D:Ask)=>Q (D,true) h1)):cx 93 [vp p,vi i] (ZV [Zx,cB]) h Q:=cc (mkA 16 [] 0 (bc [(4,Zx)])) (dh 33637586 []) C
theorem c96(E:cx 167 [vp p,vi i] ci h λ(r:Int) h1=>ZT (λ(F:Bool) h2=>ZB F (B false h2) (ZM p λC=>ZC cSl (C.add 0) h2 λ(s1:Sl)=>Zb s1.a s1.len r λA=>ZS cB ⟨(A.add (r.toNat*6)).block,(A.add (r.toNat*6)).off+5,none⟩ false h2 λD=>B true D)) λw=>ZB (decide (r<0)) (w true h1) (ZM p λa3=>ZC cSl (a3.add 0) h1 λ(s2:Sl)=>Zb s2.a s2.len r λa4=>ZC cB ⟨(a4.add (r.toNat*6)).block,(a4.add (r.toNat*6)).off+5,none⟩ h1 λ(G:Bool)=>w (!G) h1)):cx 96 [vp p,vi i] (cB) h B:=cd0 (dh 2416581842 [.j [(21,false,cB)] 4193792]) E
theorem c98(H:Ze ({a:=none,len:=0,cap:=0:Sl},(0:Int)) h λE r w=>ZM p λF=>ZC cSl (F.add 0) w λ(s1:Sl)=>ZB (decide (r.snd<s1.len)) (ZT (λ(s2:Sl) h2=>E (s2,i64.wrap (r.snd+1)) h2) λA=>ZT (λ(L:Bool) h3=>ZB L (ZM p λG=>ZC cSl (G.add 0) h3 λ(s3:Sl)=>Zb s3.a s3.len r.snd λa3=>ZC ZP (a3.add (r.snd.toNat*6)) h3 λ(N:Za)=>cx 169 [.slice r.fst.a r.fst.len r.fst.cap,ZP.enc N] cSl h3 A) (A r.fst h3)) λC=>ZM p λa4=>ZC cSl (a4.add 0) w λ(s5:Sl)=>Zb s5.a s5.len r.snd λa5=>ZC ci ⟨(a5.add (r.snd.toNat*6)).block,(a5.add (r.snd.toNat*6)).off+2,none⟩ w λ(I:Int)=>ZB (I==i) (ZM p λa6=>ZC cSl (a6.add 0) w λ(s6:Sl)=>Zb s6.a s6.len r.snd λD=>ZC cB ⟨(D.add (r.snd.toNat*6)).block,(D.add (r.snd.toNat*6)).off+5,none⟩ w λ(M:Bool)=>C M w) (C false w)) (S r.fst w)):cx 98 [vp p,vi i] (cSl) h S:=cd0 (dh 0x4418766044f54d2 [.l [(5,false,cSl),(6,false,ci)] (mq [5,45]),.k [(5,false,cSl)] 35184372023328,.j [(35,false,cB)] 68719411200]) H
theorem c99(M:Ze ({a:=none,len:=0,cap:=0:Sl},(0:Int)) h λE r w=>ZM p λF=>ZC cSl (F.add 0) w λ(s1:Sl)=>ZB (decide (r.snd<s1.len)) (ZT (λ(s2:Sl) h2=>E (s2,i64.wrap (r.snd+1)) h2) λA=>ZT (λ(W:Bool) h3=>ZB W (ZM p λG=>ZC cSl (G.add 0) h3 λ(s3:Sl)=>Zb s3.a s3.len r.snd λa3=>ZC ZAs (a3.add (r.snd.toNat*3)) h3 λ(X:Due)=>ZJ (Obj.cells ⟨eDue X⟩ 197) h3 λk1 I=>ZR ZAs 197 24 r.fst.a r.fst.len r.fst.cap (sj k1) 1 I λp1 (N P:Nat) h5=>A ⟨p1,N,P⟩ h5) (A r.fst h3)) λC=>ZM p λa4=>ZC cSl (a4.add 0) w λ(s4:Sl)=>Zb s4.a s4.len r.snd λa5=>ZC ci ⟨(a5.add (r.snd.toNat*3)).block,(a5.add (r.snd.toNat*3)).off+1,none⟩ w λ(R:Int)=>ZB (R != i) (C true w) (ZM p λa6=>ZC cSl (a6.add 0) w λ(s5:Sl)=>Zb s5.a s5.len r.snd λD=>ZC ci ⟨(D.add (r.snd.toNat*3)).block,(D.add (r.snd.toNat*3)).off+2,none⟩ w λ(V:Int)=>C (V != j) w)) (ZM p λH=>ZC cSl (H.add 0) w λ(s6:Sl)=>ZM p λa9=>ZS cSl (a9.add 0) r.fst w λL=>B (decide ((r.fst.len:Int)<(s6.len:Int))) L)):cx 99 [vp p,vi i,vi j] (cB) h B:=cd0 (dh 0x124418766044f54d2 [.l [(7,false,cSl),(8,false,ci)] (mq [7,9,10,51]),.k [(7,false,cSl)] (mq [7,8,19,51]),.j [(40,false,cB)] (mq [19,41])]) M
variable {Q:Int->Hp->Prop}
theorem c163(E:Ze (0:Int) h λA w r=>ZM p λC=>ZC cSl (C.add 0) r λ(s1:Sl)=>ZB (decide (w<s1.len)) (ZM p λD=>ZC cSl (D.add 0) r λ(s2:Sl)=>Zb s2.a s2.len w λa3=>ZC ci ((a3.add (w.toNat*10)).add 0) r λ(F:Int)=>ZB (F==i) (Q w r) (A (i64.wrap (w+1)) r)) (Q (-1) r)):cx 163 [vp p,vi i] ci h Q:=cd0 (dh 0x880a2ac089ea9a [.l [(5,false,ci)] 67108848]) E
theorem c164(P:cx 163 [vp p,vi i] ci h λ(r:Int) h1=>ZB (decide (r<0)) (Q 4 h1) (ZT (λ(W:Bool) h2=>ZB W (Q 1 h2) (ZT (λ(X:Bool) h3=>ZB X (Q 11 h3) (ZM p λH=>ZM p λI=>ZC cSl (H.add 0) h3 λ(s1:Sl)=>ZC cSl (I.add 0) h3 λ(s2:Sl)=>Zb s1.a s1.len r λa3=>ZS ci ⟨(a3.add (r.toNat*10)).block,(a3.add (r.toNat*10)).off+8,none⟩ j h3 λM=>Zb s2.a s2.len r λa4=>ZS ci ⟨(a4.add (r.toNat*10)).block,(a4.add (r.toNat*10)).off+7,none⟩ 0 M λE=>ZB (j==4) (ZM p λa5=>ZC cSl (a5.add 0) E λ(s3:Sl)=>Zb s3.a s3.len r λa6=>ZS ci ⟨(a6.add (r.toNat*10)).block,(a6.add (r.toNat*10)).off+9,none⟩ 0 E λN=>Q 0 N) (Q 0 E))) λC=>ZM p λL=>ZC cSl (L.add 0) h2 λ(s4:Sl)=>Zb s4.a s4.len r λG=>ZC ci ⟨(G.add (r.toNat*10)).block,(G.add (r.toNat*10)).off+8,none⟩ h2 λ(R:Int)=>ZB (R==3) (C true h2) (ZM p λa9=>ZC cSl (a9.add 0) h2 λ(s5:Sl)=>Zb s5.a s5.len r λw=>ZC ci ⟨(w.add (r.toNat*10)).block,(w.add (r.toNat*10)).off+8,none⟩ h2 λ(n3:Int)=>ZB (n3==4) (C true h2) (ZB (j==3) (ZM p λD=>ZC cSl (D.add 0) h2 λ(s6:Sl)=>Zb s6.a s6.len r λA=>ZC ci ⟨(A.add (r.toNat*10)).block,(A.add (r.toNat*10)).off+8,none⟩ h2 λ(V:Int)=>C (V != 2) h2) (C false h2))))) λF=>ZB (j != 3) (F (j != 4) h1) (F false h1))):cx 164 [vp p,vi i,vi j] ci h Q:=cd0 (dh 0x8189e60287050e0a2ad2 [.j [(14,false,cB)] 2080768,.j [(21,false,cB)] (mq [21,57]),.o 17 [1783]]) P
theorem c166(H:cx 163 [vp p,vi i] ci h λ(r:Int) h1=>ZB (decide (r<0)) (Q 4 h1) (ZM p λD=>ZC cSl (D.add 0) h1 λ(s1:Sl)=>Zb s1.a s1.len r λw=>ZC ci ⟨(w.add (r.toNat*10)).block,(w.add (r.toNat*10)).off+8,none⟩ h1 λ(I:Int)=>ZB (I != 2) (Q 11 h1) (ZM p λa3=>ZM p λa4=>ZM p λa5=>ZC cSl (a3.add 0) h1 λ(s2:Sl)=>ZC cSl (a4.add 0) h1 λ(s3:Sl)=>ZC cSl (a5.add 0) h1 λ(s4:Sl)=>Zb s2.a s2.len r λa6=>ZS ci ⟨(a6.add (r.toNat*10)).block,(a6.add (r.toNat*10)).off+8,none⟩ 1 h1 λE=>Zb s3.a s3.len r λA=>ZS ci ⟨(A.add (r.toNat*10)).block,(A.add (r.toNat*10)).off+9,none⟩ 0 E λF=>Zb s4.a s4.len r λC=>ZS ci ⟨(C.add (r.toNat*10)).block,(C.add (r.toNat*10)).off+7,none⟩ 0 F λG=>Q 0 G))):cx 166 [vp p,vi i] ci h Q:=cd0 (dh 98409009261266 [.o 24 [24311]]) H
theorem c167(E:Ze (0:Int) h λA w r=>ZM p λC=>ZC cSl (C.add 0) r λ(s1:Sl)=>ZB (decide (w<s1.len)) (ZM p λD=>ZC cSl (D.add 0) r λ(s2:Sl)=>Zb s2.a s2.len w λa3=>ZC ci ((a3.add (w.toNat*6)).add 0) r λ(F:Int)=>ZB (F==i) (Q w r) (A (i64.wrap (w+1)) r)) (Q (-1) r)):cx 167 [vp p,vi i] ci h Q:=cd0 (dh 0x880a2ac089ea9a [.l [(5,false,ci)] 67108848]) E
variable {d:Za}
theorem c169(N:Ze (0:Int) h λH r A=>ZT (λ(t1:Bool) h2=>ZB t1 (H (i64.wrap (r+1)) h2) (Z3 s.len s.cap none (some r) λ(k1 P:Nat)=>Z3 s.len s.cap (some r) none λ(G R:Nat)=>ZJ (Obj.cells ⟨[]⟩ 207) h2 λV L=>ZR ZP 207 48 (sj V) 0 0 (Zh s.a k1 s.cap 6) (P-k1) L λw (W X:Nat) h4=>ZJ (Obj.cells ⟨eQuote d⟩ 207) h4 λY M=>ZR ZP 207 48 w W X (sj Y) 1 M λp2 (Z C:Nat) h6=>ZR ZP 207 48 p2 Z C (Zh s.a G s.cap 6) (R-G) h6 λp3 (D E:Nat) h7=>S ⟨p3,D,E⟩ h7)) λF=>ZB (decide (r<s.len)) (Zb s.a s.len r λI=>ZC ci ((I.add (r.toNat*6)).add 0) A λ(n2:Int)=>F (decide (n2<d.ID)) A) (F false A)):cx 169 [.slice s.a s.len s.cap,ZP.enc d] (cSl) h S:=cc (mkA 8 [(16,3)] 0 (bc [(3,ZP)])) (dh 28149297048274 [.l [(5,false,ci)] 4194272,.j [(19,false,cB)] 1048512,.o 14 [3583],.o 13 [1838]]) N
theorem c244{Q:Int×Int->Hp->Prop}(R:ZT (λ(t1:Bool) h1=>ZB t1 (Q (0,1) h1) (Ze ((0:Int),(0:Int)) h1 λH r w=>ZM p λI=>ZC cSl (I.add 0) w λ(s1:Sl)=>ZB (decide (r.snd<s1.len)) (ZT (λ(X:Int) h3=>H (X,i64.wrap (r.snd+1)) h3) λF=>ZT (λ(t2:Bool) h4=>ZB t2 (ZM p λL=>ZC cSl (L.add 0) h4 λ(s2:Sl)=>Zb s2.a s2.len r.snd λa3=>ZC ci ((a3.add (r.snd.toNat*6)).add 0) h4 λ(Y:Int)=>F Y h4) (F r.fst h4)) λC=>ZM p λa4=>ZC cSl (a4.add 0) w λ(s3:Sl)=>Zb s3.a s3.len r.snd λa5=>ZC ci ⟨(a5.add (r.snd.toNat*6)).block,(a5.add (r.snd.toNat*6)).off+1,none⟩ w λ(n3:Int)=>ZB (n3==d.Ask) (ZM p λa6=>ZC cSl (a6.add 0) w λ(s4:Sl)=>Zb s4.a s4.len r.snd λG=>ZC ci ⟨(G.add (r.snd.toNat*6)).block,(G.add (r.snd.toNat*6)).off+2,none⟩ w λ(Z:Int)=>ZB (Z==d.Dealer) (ZM p λM=>ZC cSl (M.add 0) w λ(s5:Sl)=>Zb s5.a s5.len r.snd λa9=>ZC cB ⟨(a9.add (r.snd.toNat*6)).block,(a9.add (r.snd.toNat*6)).off+5,none⟩ w λ(t3:Bool)=>C t3 w) (C false w)) (C false w)) (cx 96 [vp p,vi r.fst] cB w λ(t4:Bool) h5=>ZM p λD=>ZC cSl (D.add 0) h5 λ(s6:Sl)=>ZJ (Obj.cells ⟨[vi d.ID,vi d.Ask,vi d.Dealer,vi d.Price,vi d.Expires,.bool d.Live]⟩ 207) h5 λk1 N=>ZR ZP 207 48 s6.a s6.len s6.cap (sj k1) 1 N λp1 (V W:Nat) h7=>ZM p λE=>ZS cSl (E.add 0) ⟨p1,V,W⟩ h7 λP=>Q (r.fst,0) P))) λA=>ZB (decide (d.ID<1)) (A true h) (ZB (decide (d.Ask<1)) (A true h) (ZB (decide (d.Price<1)) (A true h) (ZB (decide (d.Dealer<0)) (A true h) (ZB (!d.Live) (A true h) (cx 167 [vp p,vi d.ID] ci h λ(n5:Int) h9=>A (decide (n5>=0)) h9)))))):cx 244 [vp p,ZP.enc d] (ZV [ci,ci]) h Q:=cc ({prom:=8,refs:=[(8,3),(12,3),(17,3),(22,3),(27,3),(33,3),(55,3),(67,3)],dyn:=0,bcd:=λs=>match s with|3=>some (ZP)|_=>none,eqs:=ZB8 eqL,cdc:=ZKt,res:=ZLq,pure:=ZB8 [193],pan:=ZB8 [192,276]}) (dh 0x16688336cc089ea9a01439a [.j [(37,false,cB)] (mq [8,38]),.l [(6,false,ci),(7,false,ci)] (mq [6,8,38,89]),.k [(6,false,ci)] (mq [6,7,47,89]),.j [(80,false,cB)] (mq [47,81]),.o 34 [791,3243240,802062336],.o 11 [47]]) R
theorem c245{Q:Za×Bool->Hp->Prop}(C:cx 167 [vp p,vi i] ci h λ(r:Int) h1=>ZB (decide (r<0)) (Q ({ID:=0,Ask:=0,Dealer:=0,Price:=0,Expires:=0,Live:=false:Za},false) h1) (ZM p λw=>ZC cSl (w.add 0) h1 λ(s1:Sl)=>Zb s1.a s1.len r λA=>ZC ZP (A.add (r.toNat*6)) h1 λ(D:Za)=>Q (D,true) h1)):cx 245 [vp p,vi i] (ZV [ZP,cB]) h Q:=cc (mkA 16 [] 0 (bc [(4,ZP)])) (dh 33637586 []) C
theorem c246(w:cx 245 [vp p,vi i] (ZV [ZP,cB]) h λ(r:Za×Bool) h1=>ZB (!r.snd) (Q 4 h1) (ZB (r.fst.Dealer != j) (Q 5 h1) (ZB (!r.fst.Live) (Q 12 h1) (cx 96 [vp p,vi i] cB h1 λ(A:Bool) h2=>Q 0 h2)))):cx 246 [vp p,vi i,vi j] ci h Q:=cc (mkA 128 [(19,7),(24,7)] 0 (bc [(7,ZP)])) (dh 0x900a20a20a2ad2 []) w
theorem c247(D:ZT (λ(F:Bool) h1=>ZB F (Q 1 h1) (cx 307 [vi i] ci h1 λ(E:Int) h2=>cx 13 [vp p,vi E,vi l] (ZV [Zm,cB]) h2 λ(C:ZBL×Bool) h3=>cx 16 [vi j,vi l] (ZV [Zm,cB]) h3 λ(H:ZBL×Bool) h4=>cx 17 [Zm.enc C.fst,Zm.enc H.fst] ci h4 λ(A:Int) h5=>ZT (λ(G:Bool) h6=>ZB G (Q 13 h6) (Q 0 h6)) λr=>ZB C.snd (ZB (i==1) (ZB (decide (A<0)) (r true h5) (ZB (i==2) (r (decide (A>0)) h5) (r false h5))) (ZB (i==2) (r (decide (A>0)) h5) (r false h5))) (r false h5))) λw=>cx 59 [vi i] cB h λ(t3:Bool) h7=>ZB (!t3) (w true h7) (ZB (decide (j<1)) (w true h7) (w (decide (l<1)) h7))):cx 247 [vp p,vi i,vi j,vi l] ci h Q:=cc (mkA 2560 [] 0 (bc [(9,Zm),(11,Zm)])) (dh 0x8050e69201439a [.j [(24,false,cB)] 33538048,.j [(58,false,cB)] (mq [42,59])]) D
theorem c249(I:cx 163 [vp p,vi i] ci h λ(r:Int) h1=>ZB (decide (r<0)) (Q 4 h1) (ZM p λE=>ZC cSl (E.add 0) h1 λ(s1:Sl)=>Zb s1.a s1.len r λA=>ZC ci ⟨(A.add (r.toNat*10)).block,(A.add (r.toNat*10)).off+8,none⟩ h1 λ(L:Int)=>ZB (L != 1) (Q 11 h1) (ZT (λ(M:Bool) h2=>ZB M (Q 1 h2) (ZM p λa3=>ZM p λa4=>ZM p λa5=>ZC cSl (a3.add 0) h2 λ(s2:Sl)=>ZC cSl (a4.add 0) h2 λ(s3:Sl)=>ZC cSl (a5.add 0) h2 λ(s4:Sl)=>Zb s2.a s2.len r λa6=>ZS ci ⟨(a6.add (r.toNat*10)).block,(a6.add (r.toNat*10)).off+8,none⟩ 2 h2 λF=>Zb s3.a s3.len r λC=>ZS ci ⟨(C.add (r.toNat*10)).block,(C.add (r.toNat*10)).off+9,none⟩ j F λG=>Zb s4.a s4.len r λD=>ZS ci ⟨(D.add (r.toNat*10)).block,(D.add (r.toNat*10)).off+7,none⟩ l G λH=>Q 0 H)) λw=>ZB (decide (j<1)) (w true h1) (w (decide (l<1)) h1)))):cx 249 [vp p,vi i,vi j,vi l] ci h Q:=cd0 (dh 0x2cc050e0a20a2ad2 [.j [(26,false,cB)] 8522825728,.o 26 [122615]]) I
theorem c250{Q:Za×Bool->Hp->Prop}(H:ZT (λ(M:Bool) h1=>ZB M (Q ({ID:=0,Ask:=0,Dealer:=0,Price:=0,Expires:=0,Live:=false:Za},false) h1) (Zb s.a s.len 0 λF=>ZC ZP (F.add 0) h1 λ(P:Za)=>Ze (P,(0:Int)) h1 λE r A=>ZB (decide (r.snd<s.len)) (ZT (λ(R:Za) h3=>E (R,i64.wrap (r.snd+1)) h3) λC=>ZT (λ(N:Bool) h4=>ZB N (Zb s.a s.len r.snd λG=>ZC ZP (G.add (r.snd.toNat*6)) h4 λ(V:Za)=>C V h4) (C r.fst h4)) λw=>Zb s.a s.len r.snd λa3=>ZC ci ⟨(a3.add (r.snd.toNat*6)).block,(a3.add (r.snd.toNat*6)).off+3,none⟩ A λ(I:Int)=>cx 127 [vi (i64.wrap (3-i)),vi I,vi r.fst.Price] cB A λ(t3:Bool) h5=>ZB t3 (w true h5) (Zb s.a s.len r.snd λa4=>ZC ci ⟨(a4.add (r.snd.toNat*6)).block,(a4.add (r.snd.toNat*6)).off+3,none⟩ h5 λ(L:Int)=>ZB (L==r.fst.Price) (Zb s.a s.len r.snd λa5=>ZC ci ((a5.add (r.snd.toNat*6)).add 0) h5 λ(n3:Int)=>w (decide (n3<r.fst.ID)) h5) (w false h5))) (Q (r.fst,true) A))) λD=>cx 59 [vi i] cB h λ(t4:Bool) h6=>ZB (!t4) (D true h6) (D ((s.len:Int)==0) h6)):cx 250 [vi i,.slice s.a s.len s.cap] (ZV [ZP,cB]) h Q:=cc (mkA 80 [(33,6),(42,6),(51,6)] 0 (bc [(4,ZP),(6,ZP)])) (dh 0x88336cc089ea9a01439a [.j [(15,false,cB)] 65280,.l [(6,true,ZP),(7,false,ci)] (mq [6,8,20,60]),.k [(6,true,ZP)] (mq [6,7,26,60]),.j [(55,false,cB)] (mq [26,56]),.o 30 [447,228928,117211136]]) H
theorem c251(H:Ze ({a:=none,len:=0,cap:=0:Sl},(0:Int)) h λE r w=>ZM p λF=>ZC cSl (F.add 0) w λ(s1:Sl)=>ZB (decide (r.snd<s1.len)) (ZT (λ(s2:Sl) h2=>E (s2,i64.wrap (r.snd+1)) h2) λD=>ZM p λG=>ZC cSl (G.add 0) w λ(s3:Sl)=>Zb s3.a s3.len r.snd λa3=>ZC ZP (a3.add (r.snd.toNat*6)) w λ(A:Za)=>ZT (λ(I:Bool) h3=>ZB I (cx 169 [.slice r.fst.a r.fst.len r.fst.cap,ZP.enc A] cSl h3 D) (D r.fst h3)) λC=>ZB (A.Ask==i) (ZB A.Live (C (decide (A.Expires>j)) w) (C false w)) (C false w)) (S r.fst w)):cx 251 [vp p,vi i,vi j] (cSl) h S:=cc (mkA 512 [(26,9),(31,9),(35,9)] 0 (bc [(9,ZP)])) (dh 0x220c3966044f54d2 [.l [(7,false,cSl),(8,false,ci)] (mq [7,43]),.k [(7,false,cSl)] 8796092498560,.j [(39,false,cB)] (mq [26,40])]) H
theorem c255(R:Ze ({a:=none,len:=0,cap:=0:Sl},{a:=none,len:=0,cap:=0:Sl},(0:Int)) h λE r w=>ZM p λG=>ZC cSl (G.add 0) w λ(s1:Sl)=>ZB (decide (r.snd.snd<s1.len)) (ZT (λ(D:Sl×Sl) h2=>E (D.fst,D.snd,i64.wrap (r.snd.snd+1)) h2) λC=>ZM p λH=>ZC cSl (H.add 0) w λ(s2:Sl)=>Zb s2.a s2.len r.snd.snd λa3=>ZC ci ⟨(a3.add (r.snd.snd.toNat*6)).block,(a3.add (r.snd.snd.toNat*6)).off+1,none⟩ w λ(n1:Int)=>ZB (n1==i) (ZM p λa4=>ZC cSl (a4.add 0) w λ(s3:Sl)=>Zb s3.a s3.len r.snd.snd λa5=>ZC ZP (a5.add (r.snd.snd.toNat*6)) w λ(x1:Za)=>cx 169 [.slice r.snd.fst.a r.snd.fst.len r.snd.fst.cap,ZP.enc x1] cSl w λ(s4:Sl) h3=>C (r.fst,s4) h3) (ZM p λa6=>ZC cSl (a6.add 0) w λ(s5:Sl)=>Zb s5.a s5.len r.snd.snd λI=>ZC ZP (I.add (r.snd.snd.toNat*6)) w λ(x2:Za)=>ZJ (Obj.cells ⟨eQuote x2⟩ 207) w λk1 M=>ZR ZP 207 48 r.fst.a r.fst.len r.fst.cap (sj k1) 1 M λp1 (V W:Nat) h5=>C (⟨p1,V,W⟩,r.snd.fst) h5)) (ZM p λL=>ZS cSl (L.add 0) r.fst w λN=>Ze ({a:=none,len:=0,cap:=0:Sl},(0:Int)) N λF z3 A=>ZB (decide (z3.snd<r.snd.fst.len)) (Zb r.snd.fst.a r.snd.fst.len z3.snd λa9=>ZC ci ((a9.add (z3.snd.toNat*6)).add 0) A λ(n2:Int)=>ZJ (Obj.cells ⟨[vi n2]⟩ 2) A λX P=>ZR ci 2 8 z3.fst.a z3.fst.len z3.fst.cap (sj X) 1 P λp2 (Y Z:Nat) h9=>F (⟨p2,Y,Z⟩,i64.wrap (z3.snd+1)) h9) (S z3.fst A))):cx 255 [vp p,vi i] (cSl) h S:=cd0 (dh 0x89ac089ea9a4498b30227aa692 [.l [(5,false,cSl),(6,false,cSl),(7,false,ci)] 281474976709856,.k [(5,false,cSl),(6,false,cSl)] 281474976186464,.l [(8,false,cSl),(9,false,ci)] (mq [8,10,52,66])]) R
theorem c305(G:Ze ((0:Int),(0:Int)) h λD r w=>ZM p λE=>ZC cSl (E.add 0) w λ(s1:Sl)=>ZB (decide (r.snd<s1.len)) (ZT (λ(H:Int) h2=>D (H,i64.wrap (r.snd+1)) h2) λA=>ZT (λ(L:Bool) h3=>ZB L (A (i64.wrap (r.fst+1)) h3) (A r.fst h3)) λC=>ZM p λF=>ZC cSl (F.add 0) w λ(s2:Sl)=>Zb s2.a s2.len r.snd λa3=>ZC ci ⟨(a3.add (r.snd.toNat*10)).block,(a3.add (r.snd.toNat*10)).off+8,none⟩ w λ(I:Int)=>ZB (I==1) (C true w) (ZM p λa4=>ZC cSl (a4.add 0) w λ(s3:Sl)=>Zb s3.a s3.len r.snd λa5=>ZC ci ⟨(a5.add (r.snd.toNat*10)).block,(a5.add (r.snd.toNat*10)).off+8,none⟩ w λ(n3:Int)=>C (n3==2) w)) (Q r.fst w)):cx 305 [vp p] ci h Q:=cd0 (dh 0x4418766044f54d2 [.l [(3,false,ci),(4,false,ci)] (mq [3,36]),.k [(3,false,ci)] 68719460360,.j [(33,false,cB)] 17179852800]) G
theorem c306{d e:Due}(r:ZB (d.Tick != e.Tick) (B (decide (d.Tick<e.Tick)) h) (ZB (d.Kind != e.Kind) (B (decide (d.Kind<e.Kind)) h) (B (decide (d.ID<e.ID)) h))):cx 306 [ZAs.enc d,ZAs.enc e] (cB) h B:=cc (mkA 12 [(5,2),(7,3),(10,2),(12,3),(15,2),(17,3),(20,2),(22,3),(25,2),(27,3)] 0 (bc [(2,ZAs),(3,ZAs)])) (dh 1102235838618 []) r
variable {d:Z2}
theorem c310(hk:ZT (λ(t1:Bool) h1=>ZB t1 (Q 1 h1) (cx 16 [vi d.Price,vi d.Qty] (ZV [Zm,cB]) h1 λ(z1:ZBL×Bool) h2=>cx 308 [Zm.enc z1.fst] (ZV [ci,cB]) h2 λ(z2:Int×Bool) h3=>ZM p λa1=>ZC cSl (a1.add 0) h3 λ(s1:Sl)=>Zb s1.a s1.len d.Buyer λa2=>ZC cSl (a2.add (d.Buyer.toNat*1)) h3 λ(s2:Sl)=>Zb s2.a s2.len d.Bond λa3=>ZC ci (a3.add (d.Bond.toNat*1)) h3 λ(n1:Int)=>cx 309 [vi n1,vi d.Qty] (ZV [ci,cB]) h3 λ(z3:Int×Bool) h4=>ZM p λa4=>ZC cSl (a4.add 0) h4 λ(s3:Sl)=>Zb s3.a s3.len d.Seller λa5=>ZC cSl (a5.add (d.Seller.toNat*1)) h4 λ(s4:Sl)=>Zb s4.a s4.len d.Bond λa6=>ZC ci (a6.add (d.Bond.toNat*1)) h4 λ(n2:Int)=>cx 348 [vi n2,vi d.Qty] (ZV [ci,cB]) h4 λ(z4:Int×Bool) h5=>ZM p λa7=>ZC cSl ⟨a7.block,a7.off+1,none⟩ h5 λ(s5:Sl)=>Zb s5.a s5.len d.Buyer λa8=>ZC ci (a8.add (d.Buyer.toNat*1)) h5 λ(n3:Int)=>cx 348 [vi n3,vi z2.fst] (ZV [ci,cB]) h5 λ(z5:Int×Bool) h6=>ZM p λa9=>ZC cSl ⟨a9.block,a9.off+1,none⟩ h6 λ(s6:Sl)=>Zb s6.a s6.len d.Seller λH=>ZC ci (H.add (d.Seller.toNat*1)) h6 λ(n4:Int)=>cx 309 [vi n4,vi z2.fst] (ZV [ci,cB]) h6 λ(z6:Int×Bool) h7=>ZT (λ(t2:Bool) h8=>ZB t2 (Q 15 h8) (ZM p λI=>ZM p λL=>ZM p λA=>ZM p λC=>ZC cSl (I.add 0) h8 λ(s7:Sl)=>Zb s7.a s7.len d.Buyer λM=>ZC cSl (M.add (d.Buyer.toNat*1)) h8 λ(s8:Sl)=>ZC cSl (L.add 0) h8 λ(s9:Sl)=>Zb s9.a s9.len d.Seller λN=>ZC cSl (N.add (d.Seller.toNat*1)) h8 λ(D:Sl)=>ZC cSl ⟨A.block,A.off+1,none⟩ h8 λ(E:Sl)=>ZC cSl ⟨C.block,C.off+1,none⟩ h8 λ(F:Sl)=>Zb s8.a s8.len d.Bond λP=>ZS ci (P.add (d.Bond.toNat*1)) z3.fst h8 λh9=>Zb D.a D.len d.Bond λa18=>ZS ci (a18.add (d.Bond.toNat*1)) z4.fst h9 λX=>Zb E.a E.len d.Buyer λR=>ZS ci (R.add (d.Buyer.toNat*1)) z5.fst X λY=>Zb F.a F.len d.Seller λV=>ZS ci (V.add (d.Seller.toNat*1)) z6.fst Y λZ=>Q 0 Z)) λw=>ZB (!z2.snd) (w true h7) (ZB (!z3.snd) (w true h7) (ZB (!z4.snd) (w true h7) (ZB (!z5.snd) (w true h7) (w (!z6.snd) h7)))))) λr=>cx 347 [vp p,vi d.Buyer] cB h λ(t3:Bool) h13=>ZB (!t3) (r true h13) (cx 347 [vp p,vi d.Seller] cB h13 λ(t4:Bool) h14=>ZB (!t4) (r true h14) (ZB (d.Buyer==d.Seller) (r true h14) (ZB (decide (d.Bond<0)) (r true h14) (ZM p λW=>ZC cSl (W.add 0) h14 λ(G:Sl)=>Zb G.a G.len 0 λa22=>ZC cSl (a22.add 0) h14 λ(ab:Sl)=>ZB (decide (d.Bond>=(ab.len:Int))) (r true h14) (ZB (decide (d.Price<1)) (r true h14) (r (decide (d.Qty<1)) h14))))))):cx 310 [vp p,Zl.enc d] ci h Q:=cc (mkA 40 [(18,3),(24,3),(30,3),(32,3),(37,3),(42,3),(54,3),(59,3),(64,3),(66,3),(81,3),(85,3),(89,3),(99,3),(103,3),(107,3),(117,3),(130,3),(160,3),(164,3),(170,3),(174,3),(180,3),(186,3)] 0 (bc [(3,Zl),(5,Zm)])) (dh 0x5980a1cf3cf3cd2014d9a [.j [(62,false,cB)] (mq [17,63]),.o 46 [],.o 20 [13111],.o 20 [13111],.o 15 [311],.o 15 [311],.j [(155,false,cB)] (mq [138,156]),.o 44 [68174012215]]) hk
theorem c311(E:ZJ (Obj.cells ⟨[vi d.ID,vi 1,vi d.Bond,vi d.Price,vi d.Qty,vi d.Seller]⟩ 2) h λk1 A=>cx 69 [vi 28,.slice (sj k1) 6 6] ZAk A λ(r:Msg) h2=>ZJ (Obj.cells ⟨[vi d.ID,vi 2,vi d.Bond,vi d.Price,vi d.Qty,vi d.Buyer]⟩ 2) h2 λF C=>cx 69 [vi 28,.slice (sj F) 6 6] ZAk C λ(w:Msg) h4=>ZJ (Obj.cells ⟨[vi d.Buyer,vi r.Kind,vi r.F_0,vi r.F_1,vi r.F_2,vi r.F_3,vi r.F_4,vi r.F_5,vi d.Seller,vi w.Kind,vi w.F_0,vi w.F_1,vi w.F_2,vi w.F_3,vi w.F_4,vi w.F_5]⟩ 78) h4 λG D=>S ⟨sj G,2,2⟩ D):cx 311 [Zl.enc d] (cSl) h S:=cc (mkA 2 [(5,1),(7,1),(9,1),(11,1),(13,1),(15,1),(17,1),(23,1),(25,1),(27,1),(29,1),(31,1)] 0 (bc [(1,Zl)])) (dh 26522 [.o 6 [],.o 30 [33540095]]) E
theorem c312{Q:Z2->Hp->Prop}(E:ZM p λw=>ZC cSl (w.add 0) h λ(s1:Sl)=>ZM p λA=>ZC cSl (A.add 0) h λ(s2:Sl)=>ZJ (Obj.cells ⟨[vi (i64.wrap ((s1.len:Int)+1)),vi d.Bond,vi d.Buyer,vi d.Seller,vi d.Price,vi d.Qty,vi d.Ask,vi d.Tick]⟩ 64) h λk1 C=>ZR Zl 64 64 s2.a s2.len s2.cap (sj k1) 1 C λr (F G:Nat) h2=>ZM p λa3=>ZS cSl (a3.add 0) ⟨r,F,G⟩ h2 λD=>Q {ID:=i64.wrap ((s1.len:Int)+1),Bond:=d.Bond,Buyer:=d.Buyer,Seller:=d.Seller,Price:=d.Price,Qty:=d.Qty,Ask:=d.Ask,Tick:=d.Tick:Z2} D):cx 312 [vp p,Zl.enc d] (Zl) h Q:=cc (mkA 24 [(11,3)] 0 (bc [(3,Zl),(4,Zl)])) (dh 11474 [.o 11 [47]]) E
theorem c347(w:ZB (decide (i>=0)) (ZM p λr=>ZC cSl ⟨r.block,r.off+1,none⟩ h λ(s1:Sl)=>B (decide (i<s1.len)) h) (B false h)):cx 347 [vp p,vi i] (cB) h B:=cd0 (dh 18 []) w
theorem c10{d:ZDY}(Y:cx 42 [ZAK.enc d] cP h λp1 H=>ZB p1.isNone (O none H) (ZJ (Obj.cells ⟨[]⟩ 105) H λk1 M=>ZR Zs 105 56 (sj k1) 0 0 d.Bonds.a d.Bonds.len M λp2 (Z k3:Nat) h3=>cx 43 [vi (d.Parties.len:Int),vi (d.Bonds.len:Int)] cP h3 λp3 N=>ZJ (Obj.cells ⟨[.slice none 0 0]⟩ 126) N λk4 P=>ZJ (Obj.cells ⟨[.slice none 0 0]⟩ 128) P λk5 R=>ZJ (Obj.cells ⟨[.slice none 0 0]⟩ 131) R λk6 V=>ZJ (Obj.cells ⟨[.slice none 0 0]⟩ 134) V λk7 W=>ZJ (Obj.cells ⟨[.slice p2 Z k3,vi d.Look,vi 0,.slice none 0 0,vp p1,vp (sj k4),vp (sj k5),vp (sj k6),vp p3,vp (sj k7),vi 0,vi 0,vi 0,vi 0,.slice none 0 0]⟩ 43) W λG X=>Ze (0:Int) X λL I r=>ZB (decide (I<d.Bonds.len)) (ZC cSl ⟨G,0+3,none⟩ r λ(s1:Sl)=>ZJ (Obj.cells ⟨[.slice none 0 0]⟩ 136) r λk9 w=>ZJ (Obj.cells ⟨[vp (sj k9)]⟩ 55) w λD A=>ZR cP 55 8 s1.a s1.len s1.cap (sj D) 1 A λp4 (E F:Nat) h13=>ZS cSl ⟨G,0+3,none⟩ ⟨p4,E,F⟩ h13 λC=>L (i64.wrap (I+1)) C) (O (sj G) r))):cx 10 [ZAK.enc d] (cP) h O:=cc (mkA 2 [(11,1),(14,1),(23,1),(26,1),(35,1)] 0 (bc [(1,ZAK)])) (dh 0x44d6044f54f30144d2 [.o 25 [1567478,524297],.l [(5,false,ci)] (mq [5,6,34,52])]) Y
theorem c15{d:ZDL}(F:ZT (λH E=>U PUnit.unit E) λ(r:PUnit->Hp->Prop)=>ZB (d.Kind==1) (cx 52 [vp p,vi d.Who,vi d.N,.agg ⟨[vi d.Msg_Kind,vi d.Msg_F_0,vi d.Msg_F_1,vi d.Msg_F_2,vi d.Msg_F_3,vi d.Msg_F_4,vi d.Msg_F_5]⟩] cSl h λ(s1:Sl) h2=>r PUnit.unit h2) (ZB (d.Kind==2) (cx 53 [vp p] cSl h λ(s2:Sl) h3=>r PUnit.unit h3) (ZB (d.Kind==3) (cx 54 [vp p,vi d.Who] cSl h λ(s3:Sl) h4=>r PUnit.unit h4) (Ze (0:Int) h λD w C=>ZT (λ(G:Bool) h6=>ZB G (cx 53 [vp p] cSl h6 λ(s4:Sl) h7=>D (i64.wrap (w+1)) h7) (r PUnit.unit h6)) λA=>ZB (decide (w<d.N)) (A (decide (w<40)) C) (A false C))))):cx 15 [vp p,ZCG.enc d] (ZV []) h U:=cc (mkA 8 [(5,3),(8,3),(22,3),(24,3),(26,3),(36,3)] 0 (bc [(3,ZCG)])) (dh 0x135810e7aa31188c592 [.k [] 549755813776,.l [(4,false,ci)] 524176,.j [(14,false,cB)] 32640]) F
variable {d:Msg}
theorem c52(I:ZM p λw=>ZS cSl ⟨w.block,w.off+14,none⟩ ⟨none,0,0⟩ h λE=>cx 90 [vp p,vi i,vi j,ZAk.enc d] ci E λ(D:Int) h2=>ZT (λL C=>ZM p λA=>ZC cSl ⟨A.block,A.off+14,none⟩ C λ(s1:Sl)=>S s1 C) λ(r:PUnit->Hp->Prop)=>ZB (D != 0) (ZM p λa3=>ZS cSl ⟨a3.block,a3.off+14,none⟩ ⟨none,0,0⟩ h2 λF=>ZJ (Obj.cells ⟨[vi j,vi D]⟩ 2) F λk1 G=>cx 91 [vp p,vi i,vi 19,.slice (sj k1) 2 2] (ZV []) G λM H=>r PUnit.unit H) (r PUnit.unit h2)):cx 52 [vp p,vi i,vi j,ZAk.enc d] (cSl) h S:=cc (mkA 128 [] 0 (bc [(7,ZAk)])) (dh 271199378 [.j [] 536608768]) I
theorem c53(Z:ZM p λM=>ZS cSl ⟨M.block,M.off+14,none⟩ ⟨none,0,0⟩ h λV=>ZM p λN=>ZC ci ⟨N.block,N.off+2,none⟩ V λ(n1:Int)=>ZM p λa3=>ZS ci ⟨a3.block,a3.off+2,none⟩ (i64.wrap (n1+1)) V λH=>ZM p λa4=>ZM p λa5=>ZC cP ⟨a4.block,a4.off+7,none⟩ H λp1=>ZC ci ⟨a5.block,a5.off+2,none⟩ H λ(n2:Int)=>cx 92 [vp p1,vi n2] cSl H λ(s1:Sl) h3=>Ze (0:Int) h3 λW n3 D=>ZB (decide (n3<s1.len)) (ZM p λa6=>Zb s1.a s1.len n3 λP=>ZC cP ⟨a6.block,a6.off+6,none⟩ D λp2=>ZC ci ⟨(P.add (n3.toNat*3)).block,(P.add (n3.toNat*3)).off+2,none⟩ D λ(n4:Int)=>cx 93 [vp p2,vi n4] (ZV [Zx,cB]) D λ(F:Ask×Bool) h5=>ZT (λu1 X=>W (i64.wrap (n3+1)) X) λ(E:PUnit->Hp->Prop)=>ZT (λ(t1:Bool) h7=>ZB t1 (cx 94 [vp p,Zx.enc F.fst] (ZV []) h7 λu2 Y=>E PUnit.unit Y) (ZT (λ(t2:Bool) h9=>ZB t2 (cx 95 [vp p,Zx.enc F.fst] (ZV []) h9 λu3 G=>E PUnit.unit G) (Zb s1.a s1.len n3 λR=>ZC ci ⟨(R.add (n3.toNat*3)).block,(R.add (n3.toNat*3)).off+1,none⟩ h9 λ(n5:Int)=>ZB (n5==3) (ZM p λa9=>Zb s1.a s1.len n3 λr=>ZC cP ⟨a9.block,a9.off+5,none⟩ h9 λp3=>ZC ci ⟨(r.add (n3.toNat*3)).block,(r.add (n3.toNat*3)).off+2,none⟩ h9 λ(n6:Int)=>cx 96 [vp p3,vi n6] cB h9 λ(t3:Bool) h11=>E PUnit.unit h11) (E PUnit.unit h9))) λI=>Zb s1.a s1.len n3 λw=>ZC ci ⟨(w.add (n3.toNat*3)).block,(w.add (n3.toNat*3)).off+1,none⟩ h7 λ(n7:Int)=>ZB (n7==2) (I (F.fst.State==2) h7) (I false h7))) λL=>Zb s1.a s1.len n3 λA=>ZC ci ⟨(A.add (n3.toNat*3)).block,(A.add (n3.toNat*3)).off+1,none⟩ h5 λ(n8:Int)=>ZB (n8==1) (L (F.fst.State==1) h5) (L false h5)) (ZM p λC=>ZC cSl ⟨C.block,C.off+14,none⟩ D λ(s2:Sl)=>S s2 D)):cx 53 [vp p] (cSl) h S:=cc (mkA 32 [(53,5),(68,5)] 0 (bc [(5,Zx)])) (dh 0x2234461c61db3ac089ea9e692 [.o 10 [119],.l [(4,false,ci)] (mq [4,7,26,92]),.o 16 [8439],.k [] (mq [45,92]),.j [(45,false,cB)] (mq [45,57]),.j [(60,false,cB)] (mq [60,72]),.o 10 [247]]) Z
theorem c54(hk:ZM p λa1=>ZS cSl ⟨a1.block,a1.off+14,none⟩ ⟨none,0,0⟩ h λh1=>Ze (0:Int) h1 λJ1 C E=>ZM p λa2=>ZC cSl ⟨a2.block,a2.off+3,none⟩ E λ(s1:Sl)=>ZB (decide (C<s1.len)) (ZM p λa3=>ZM p λa4=>ZC cSl ⟨a3.block,a3.off+3,none⟩ E λ(s2:Sl)=>Zb s2.a s2.len C λa5=>ZC cP (a5.add (C.toNat*1)) E λP=>ZC cSl ⟨a4.block,a4.off+3,none⟩ E λ(s3:Sl)=>Zb s3.a s3.len C λa6=>ZC cP (a6.add (C.toNat*1)) E λp2=>cx 47 [vp P,vi 1] cSl E λ(s4:Sl) h3=>(h3.rds ⟨a4.block,a4.off+3,none⟩ [.slice s3.a s3.len s3.cap]/\h3.rds (a6.add (C.toNat*1)) [vp p2]/\True)/\cx 47 [vp p2,vi 2] cSl h3 λ(s5:Sl) h4=>ZR ZF 74 48 s4.a s4.len s4.cap s5.a s5.len h4 λR (k1 k2:Nat) h5=>Ze (0:Int) h5 λJ2 r F=>ZB (decide (r<k1)) (ZT (λu1 h7=>J2 (i64.wrap (r+1)) h7) λ(J3:PUnit->Hp->Prop)=>Zb R k1 r λa7=>ZC ci ⟨(a7.add (r.toNat*6)).block,(a7.add (r.toNat*6)).off+2,none⟩ F λ(n3:Int)=>ZB (n3==i) (ZM p λa8=>Zb R k1 r λa9=>ZC cSl ⟨a8.block,a8.off+3,none⟩ F λ(s6:Sl)=>Zb s6.a s6.len C λV=>ZC cP (V.add (C.toNat*1)) F λp4=>ZC ci ((a9.add (r.toNat*6)).add 0) F λ(n4:Int)=>cx 97 [vp p4,vi n4] (ZV [ZF,cB]) F λ(z1:ZE×Bool) h8=>Zb R k1 r λW=>Zb R k1 r λG=>ZC ci ((W.add (r.toNat*6)).add 0) h8 λ(n5:Int)=>ZC ci ⟨(G.add (r.toNat*6)).block,(G.add (r.toNat*6)).off+5,none⟩ h8 λ(n6:Int)=>ZJ (Obj.cells ⟨[vi n5,vi n6]⟩ 2) h8 λk3 h9=>cx 91 [vp p,vi i,vi 21,.slice (sj k3) 2 2] (ZV []) h9 λu2 ab=>J3 PUnit.unit ab) (J3 PUnit.unit F)) (J1 (i64.wrap (C+1)) F)) (ZM p λH=>ZC cP ⟨H.block,H.off+5,none⟩ E λp5=>cx 98 [vp p5,vi i] cSl E λ(D:Sl) h11=>Ze (0:Int) h11 λJ4 A w=>ZB (decide (A<D.len)) (ZT (λu3 ac=>J4 (i64.wrap (A+1)) ac) λ(J5:PUnit->Hp->Prop)=>ZM p λI=>Zb D.a D.len A λL=>ZC cP ⟨I.block,I.off+6,none⟩ w λp6=>ZC ci ⟨(L.add (A.toNat*6)).block,(L.add (A.toNat*6)).off+1,none⟩ w λ(n8:Int)=>cx 93 [vp p6,vi n8] (ZV [Zx,cB]) w λ(z2:Ask×Bool) h14=>ZT (λ(t1:Bool) h15=>ZB t1 (ZM p λM=>Zb D.a D.len A λX=>ZC cP ⟨M.block,M.off+5,none⟩ h15 λp7=>ZC ci ((X.add (A.toNat*6)).add 0) h15 λ(n9:Int)=>cx 96 [vp p7,vi n9] cB h15 λ(t2:Bool) h16=>ZM p λa18=>Zb D.a D.len A λY=>ZC cP ⟨a18.block,a18.off+7,none⟩ h16 λp8=>ZC ci ((Y.add (A.toNat*6)).add 0) h16 λ(ae:Int)=>cx 99 [vp p8,vi 3,vi ae] cB h16 λ(t3:Bool) h17=>J5 PUnit.unit h17) (J5 PUnit.unit h15)) λJ6=>ZB (z2.fst.State != 2) (J6 true h14) (Zb D.a D.len A λZ=>ZC ci ((Z.add (A.toNat*6)).add 0) h14 λ(ah:Int)=>J6 (z2.fst.Hit != ah) h14)) (ZM p λN=>ZC cSl ⟨N.block,N.off+14,none⟩ w λ(s8:Sl)=>S s8 w))):cx 54 [vp p,vi i] (cSl) h S:=cc (mkA 1024 [(106,10),(110,10)] 0 (bc [(10,Zx)])) (dh 0x446ce6d9e6044f54d12367166044f559d6044f54d2 [.l [(5,false,ci)] (mq [5,8,15,81]),.c (.reg [(0,[]),(1,[]),(2,[]),(4,[]),(8,[]),(9,[]),(10,[]),(12,[]),(3,[]),(5,[]),(6,[]),(11,[]),(13,[]),(14,[]),(7,[11,14]),(15,[]),(16,[]),(17,[])]),.l [(7,false,ci)] (mq [7,8,41,81]),.k [] (mq [47,81]),.o 13 [1943],.o 14 [1983],.l [(9,false,ci)] (mq [9,12,87,139]),.k [] (mq [10,12,93,139]),.o 16 [8439],.j [(118,false,cB)] (mq [106,119]),.o 13 [],.o 10 [247],.o 10 [247]]) hk
theorem c90(C:ZT (λ(D:Bool) h1=>ZB D (Q 5 h1) (ZB (d.Kind==6) (cx 151 [vp p,vi i,vi j,.agg ⟨[vi d.F_0,vi d.F_1,vi d.F_2,vi d.F_3,vi d.F_4,vi d.F_5]⟩] ci h1 Q) (ZB (d.Kind==7) (atP 6 0 (cx 152 [vp p,vi i,vi j,vi d.F_0] ci h1 Q)) (ZB (d.Kind==8) (atP 6 0 (atP 6 1 (atP 6 2 (cx 153 [vp p,vi i,vi j,vi d.F_0,vi d.F_1,vi d.F_2] ci h1 Q)))) (ZB (d.Kind==9) (cx 154 [vp p,vi i,vi j,.agg ⟨[vi d.F_0,vi d.F_1,vi d.F_2,vi d.F_3,vi d.F_4,vi d.F_5]⟩] ci h1 Q) (ZB (d.Kind==10) (atP 6 0 (atP 6 1 (atP 6 2 (cx 155 [vp p,vi i,vi j,vi d.F_0,vi d.F_1,vi d.F_2] ci h1 Q)))) (ZB (d.Kind==11) (atP 6 0 (cx 156 [vp p,vi i,vi j,vi d.F_0] ci h1 Q)) (ZB (d.Kind==12) (atP 6 0 (cx 157 [vp p,vi i,vi j,vi d.F_0] ci h1 Q)) (ZB (d.Kind==13) (atP 6 0 (cx 158 [vp p,vi i,vi j,vi d.F_0] ci h1 Q)) (ZB (d.Kind==14) (atP 6 0 (cx 159 [vp p,vi i,vi j,vi d.F_0] ci h1 Q)) (ZB (d.Kind==15) (atP 6 0 (cx 160 [vp p,vi i,vi j,vi d.F_0] ci h1 Q)) (ZB (d.Kind==16) (atP 6 0 (cx 161 [vp p,vi i,vi j,vi d.F_0] ci h1 Q)) (atP 6 0 (atP 6 1 (cx 162 [vp p,vi i,vi j,vi d.F_0,vi d.F_1] ci h1 Q))))))))))))))) λw=>cx 28 [ZAk.enc d] cB h λ(E:Bool) h14=>ZB (!E) (w true h14) (ZM p λA=>ZC cP ⟨A.block,A.off+4,none⟩ h14 λr=>cx 150 [vp r,vi i,vi d.Kind] cB h14 λ(t3:Bool) h15=>w (!t3) h15)):cx 90 [vp p,vi i,vi j,ZAk.enc d] ci h Q:=cc (mkA 640 [(10,7),(21,7),(26,7),(40,9),(48,9),(50,9),(52,9),(67,9),(69,9),(71,9),(79,9),(87,9),(95,9),(103,9),(111,9),(119,9),(125,9),(127,9)] 0 (bc [(7,ZAk),(9,ZBy)])) (dh 0x100a20a20a20a20a20a20a20a20a20a20a2a980a6cd2 [.j [(25,false,cB)] 67104768,.o 14 [1919]]) C
theorem c91(E:ZM p λw=>ZC cSl ⟨w.block,w.off+14,none⟩ h λ(s1:Sl)=>cx 69 [vi j,.slice s.a s.len s.cap] ZAk h λ(r:Msg) h1=>(h1.rds ⟨w.block,w.off+14,none⟩ [.slice s1.a s1.len s1.cap]/\True)/\ZJ (Obj.cells ⟨[vi i,vi r.Kind,vi r.F_0,vi r.F_1,vi r.F_2,vi r.F_3,vi r.F_4,vi r.F_5]⟩ 78) h1 λk1 C=>ZR ZCH 78 64 s1.a s1.len s1.cap (sj k1) 1 C λp1 (F G:Nat) h3=>ZM p λA=>ZS cSl ⟨A.block,A.off+14,none⟩ ⟨p1,F,G⟩ h3 λD=>U PUnit.unit D):cx 91 [vp p,vi i,vi j,.slice s.a s.len s.cap] (ZV []) h U:=cd0 (.reg [(0,[]),(1,[]),(2,[]),(3,[]),(5,[]),(6,[]),(7,[]),(4,[]),(8,[4]),(9,[]),(10,[]),(11,[]),(12,[]),(13,[]),(14,[])]) E
variable {d:Ask}
theorem c94(E:ZM p λw=>ZC cP ⟨w.block,w.off+6,none⟩ h λr=>cx 164 [vp r,vi d.ID,vi 4] ci h λ(F:Int) h1=>cx 165 [vp p,vi d.ID] (ZV []) h1 λG A=>ZJ (Obj.cells ⟨[vi d.ID]⟩ 2) A λk1 C=>cx 91 [vp p,vi d.Client,vi 27,.slice (sj k1) 1 1] (ZV []) C λH D=>U PUnit.unit D):cx 94 [vp p,Zx.enc d] (ZV []) h U:=cc (mkA 8 [(8,3),(12,3),(16,3),(18,3)] 0 (bc [(3,Zx)])) (dh 5530 [.o 7 [55]]) E
theorem c95(F:ZM p λw=>ZC cP ⟨w.block,w.off+5,none⟩ h λr=>cx 96 [vp r,vi d.Hit] cB h λ(N:Bool) h1=>ZM p λA=>ZC cP ⟨A.block,A.off+7,none⟩ h1 λH=>cx 99 [vp H,vi 3,vi d.Hit] cB h1 λ(P:Bool) h2=>ZM p λa3=>ZC cP ⟨a3.block,a3.off+7,none⟩ h2 λI=>cx 99 [vp I,vi 2,vi d.ID] cB h2 λ(t3:Bool) h3=>ZM p λa4=>ZC ci ⟨a4.block,a4.off+2,none⟩ h3 λ(G:Int)=>ZB (decide (G>=d.Ends)) (cx 94 [vp p,Zx.enc d] (ZV []) h3 λR C=>U PUnit.unit C) (ZM p λa5=>ZC cP ⟨a5.block,a5.off+6,none⟩ h3 λL=>cx 166 [vp L,vi d.ID] ci h3 λ(M:Int) h5=>ZJ (Obj.cells ⟨[vi d.ID,vi d.Hit]⟩ 2) h5 λk1 D=>cx 91 [vp p,vi d.Client,vi 25,.slice (sj k1) 2 2] (ZV []) D λV E=>U PUnit.unit E)):cx 95 [vp p,Zx.enc d] (ZV []) h U:=cc (mkA 8 [(8,3),(15,3),(22,3),(29,3),(39,3),(43,3),(45,3),(47,3)] 0 (bc [(3,Zx)])) (dh 505797687240602 [.o 7 [55],.o 7 [55],.o 7 [55],.o 7 [55],.o 7 [55]]) F
theorem c151{d:ZHM}(Y:atP 6 0 (cx 233 [vp p,vi d.e0] ci h λ(A:Int) h1=>ZB (decide (A<0)) (Q 4 h1) (ZT (λ(t1:Bool) h2=>ZB t1 (Q 1 h2) (ZM p λP=>ZC cSl (P.add 0) h2 λ(s1:Sl)=>Zb s1.a s1.len A λR=>ZC Zs (R.add (A.toNat*7)) h2 λ(H:Bond)=>atP 6 2 (atP 6 3 (cx 234 [Zs.enc H,vi d.e2,vi d.e3] ci h2 λ(Z:Int) h3=>ZT (λ(n3:Int) h4=>ZB (n3 != 0) (Q n3 h4) (ZM p λa3=>ZM p λa4=>atP 6 1 (atP 6 2 (atP 6 3 (ZC ci ⟨a3.block,a3.off+10,none⟩ h4 λ(G:Int)=>ZC ci ⟨a4.block,a4.off+11,none⟩ h4 λ(N:Int)=>ZM p λa5=>atP 6 4 (ZC cSl ⟨a5.block,a5.off+3,none⟩ h4 λ(s2:Sl)=>Zb s2.a s2.len A λa6=>ZC cP (a6.add (A.toNat*1)) h4 λD=>cx 236 [vp D,.agg ⟨[vi (i64.wrap (G+1)),vi (i64.wrap (N+1)),vi i,vi d.e1,vi d.e2,vi d.e3]⟩,vi d.e4] (ZV [cSl,cSl,ci,ci]) h4 λ(w:Sl×Sl×Int×Int) h5=>ZB (w.snd.snd.snd != 0) (Q w.snd.snd.snd h5) (ZM p λI=>ZC ci ⟨I.block,I.off+10,none⟩ h5 λ(n6:Int)=>ZM p λL=>ZS ci ⟨L.block,L.off+10,none⟩ (i64.wrap (n6+1)) h5 λM=>ZM p λa9=>ZC ci ⟨a9.block,a9.off+11,none⟩ M λ(n7:Int)=>ZM p λC=>ZS ci ⟨C.block,C.off+11,none⟩ (i64.wrap (n7+1)) M λV=>ZJ (Obj.cells ⟨[vi j,vi (i64.wrap (G+1))]⟩ 2) V λk1 W=>cx 91 [vp p,vi i,vi 18,.slice (sj k1) 2 2] (ZV []) W λu1 X=>atP 6 4 (cx 237 [vp p,vi i,.agg ⟨[vi (i64.wrap (G+1)),vi (i64.wrap (N+1)),vi i,vi d.e1,vi d.e2,vi d.e3]⟩,vi A,vi d.e4,.slice w.fst.a w.fst.len w.fst.cap,.slice w.snd.fst.a w.snd.fst.len w.snd.fst.cap,vi w.snd.snd.fst] (ZV []) X λu2 F=>Q 0 F)))))))) λE=>atP 6 4 (ZB (d.e4==4) (atP 6 3 (cx 235 [Zs.enc H,vi d.e3] ci h3 λ(n8:Int) h11=>ZB H.Halted (E 6 h11) (E n8 h11))) (E Z h3)))))) λr=>atP 6 1 (ZB (d.e1 != 1) (atP 6 1 (ZB (d.e1 != 2) (r true h1) (atP 6 4 (ZB (decide (d.e4<0)) (r true h1) (atP 6 4 (ZB (decide (d.e4>4)) (r true h1) (atP 6 4 (ZB (d.e4==4) (atP 6 2 (r (d.e2 != 0) h1)) (r false h1))))))))) (atP 6 4 (ZB (decide (d.e4<0)) (r true h1) (atP 6 4 (ZB (decide (d.e4>4)) (r true h1) (atP 6 4 (ZB (d.e4==4) (atP 6 2 (r (d.e2 != 0) h1)) (r false h1))))))))))):cx 151 [vp p,vi i,vi j,ZBy.enc d] ci h Q:=cc (mkA 5248 [(18,7),(23,7),(27,7),(32,7),(37,7),(42,7),(46,7),(59,7),(61,7),(64,7),(68,7),(71,10),(87,7),(89,7),(91,7),(103,7),(130,12),(138,7)] 0 (bc [(7,ZBy),(10,Zs),(12,ZF)])) (dh 0x92480513cf30144c03128b24028730144d2 [.j [(50,false,cB)] (mq [23,51]),.j [(11,false,ci)] (mq [11,12,64,73]),.o 20 [392423],.o 20 [919]]) Y
theorem c152(H:cx 238 [vp p,vi l] (ZV [ZF,ci]) h λ(w:ZE×Int) h1=>ZB (decide (w.snd<0)) (Q 4 h1) (ZB (w.fst.Owner != i) (Q 5 h1) (ZM p λA=>ZC cSl ⟨A.block,A.off+3,none⟩ h1 λ(s1:Sl)=>Zb s1.a s1.len w.snd λC=>ZC cP (C.add (w.snd.toNat*1)) h1 λr=>cx 97 [vp r,vi l] (ZV [ZF,cB]) h1 λ(N:ZE×Bool) h2=>ZJ (Obj.cells ⟨[vi j,vi l]⟩ 2) h2 λk1 D=>cx 91 [vp p,vi i,vi 18,.slice (sj k1) 2 2] (ZV []) D λL E=>ZJ (Obj.cells ⟨[vi l,vi w.fst.Left]⟩ 2) E λI F=>cx 91 [vp p,vi i,vi 21,.slice (sj I) 2 2] (ZV []) F λM G=>Q 0 G))):cx 152 [vp p,vi i,vi j,vi l] ci h Q:=cc (mkA 512 [(19,9),(41,9)] 0 (bc [(9,ZF)])) (dh 5145736211678418 []) H
theorem c153{o:Int}(Z:cx 238 [vp p,vi l] (ZV [ZF,ci]) h λ(r:ZE×Int) h1=>ZB (decide (r.snd<0)) (Q 4 h1) (ZB (r.fst.Owner != i) (Q 5 h1) (ZM p λV=>ZC cSl (V.add 0) h1 λ(s1:Sl)=>Zb s1.a s1.len r.snd λW=>ZC Zs (W.add (r.snd.toNat*7)) h1 λ(x1:Bond)=>cx 234 [Zs.enc x1,vi m,vi o] ci h1 λ(P:Int) h2=>ZB (P != 0) (Q P h2) (ZT (λ(t1:Bool) h3=>ZB t1 (ZM p λa3=>ZC cSl ⟨a3.block,a3.off+3,none⟩ h3 λ(s2:Sl)=>Zb s2.a s2.len r.snd λa4=>ZC cP (a4.add (r.snd.toNat*1)) h3 λA=>cx 239 [vp A,vi l,vi o] ci h3 λ(n2:Int) h4=>ZJ (Obj.cells ⟨[vi j,vi l]⟩ 2) h4 λk1 X=>cx 91 [vp p,vi i,vi 18,.slice (sj k1) 2 2] (ZV []) X λu1 Y=>Q 0 Y) (ZM p λa5=>ZC cSl ⟨a5.block,a5.off+3,none⟩ h3 λ(s3:Sl)=>Zb s3.a s3.len r.snd λa6=>ZC cP (a6.add (r.snd.toNat*1)) h3 λC=>cx 97 [vp C,vi l] (ZV [ZF,cB]) h3 λ(z2:ZE×Bool) h7=>ZM p λM=>ZC ci ⟨M.block,M.off+11,none⟩ h7 λ(n3:Int)=>ZM p λN=>ZS ci ⟨N.block,N.off+11,none⟩ (i64.wrap (n3+1)) h7 λE=>ZM p λa9=>ZC ci ⟨a9.block,a9.off+11,none⟩ E λ(R:Int)=>ZM p λw=>ZC cSl ⟨w.block,w.off+3,none⟩ E λ(s4:Sl)=>Zb s4.a s4.len r.snd λF=>ZC cP (F.add (r.snd.toNat*1)) E λD=>cx 236 [vp D,.agg ⟨[vi r.fst.ID,vi R,vi r.fst.Owner,vi r.fst.Side,vi m,vi o]⟩,vi 0] (ZV [cSl,cSl,ci,ci]) E λ(z3:Sl×Sl×Int×Int) h9=>ZJ (Obj.cells ⟨[vi j,vi l]⟩ 2) h9 λk2 G=>cx 91 [vp p,vi i,vi 18,.slice (sj k2) 2 2] (ZV []) G λu2 H=>cx 237 [vp p,vi i,.agg ⟨[vi r.fst.ID,vi R,vi r.fst.Owner,vi r.fst.Side,vi m,vi o]⟩,vi r.snd,vi 0,.slice z3.fst.a z3.fst.len z3.fst.cap,.slice z3.snd.fst.a z3.snd.fst.len z3.snd.fst.cap,vi z3.snd.snd.fst] (ZV []) H λu3 I=>Q 0 I)) λL=>ZB (m==r.fst.Price) (L (decide (o<=r.fst.Left)) h2) (L false h2))))):cx 153 [vp p,vi i,vi j,vi l,vi m,vi o] ci h Q:=cc (mkA 8192 [(28,13),(46,13),(51,13),(93,13),(94,13),(95,13)] 0 (bc [(13,ZF)])) (dh 0x1259a4804943980a26805130144d2 [.j [(54,false,cB)] (mq [45,55]),.o 18 [151]]) Z
theorem c154{d:ZHM}(hk:atP 6 0 (cx 233 [vp p,vi d.e0] ci h λ(w:Int) h1=>ZB (decide (w<0)) (Q 4 h1) (ZT (λ(t1:Bool) h2=>ZB t1 (Q 1 h2) (ZM p λa1=>ZC cSl (a1.add 0) h2 λ(s1:Sl)=>Zb s1.a s1.len w λY=>ZC cB ⟨(Y.add (w.toNat*7)).block,(Y.add (w.toNat*7)).off+6,none⟩ h2 λ(t2:Bool)=>ZB t2 (Q 6 h2) (ZM p λa3=>atP 6 2 (ZC cSl (a3.add 0) h2 λ(s2:Sl)=>Zb s2.a s2.len w λa4=>ZC Zs (a4.add (w.toNat*7)) h2 λ(x1:Bond)=>cx 235 [Zs.enc x1,vi d.e2] ci h2 λ(n2:Int) h3=>ZT (λ(n3:Int) h4=>ZB (n3 != 0) (Q n3 h4) (ZT (λ(t3:Bool) h5=>ZB t3 (Q 1 h5) (ZM p λa5=>atP 6 1 (atP 6 2 (atP 6 3 (ZM p λa6=>atP 6 4 (ZC ci ⟨a5.block,a5.off+13,none⟩ h5 λ(H:Int)=>ZC ci ⟨a6.block,a6.off+2,none⟩ h5 λ(P:Int)=>ZM p λZ=>ZC cP ⟨Z.block,Z.off+6,none⟩ h5 λE=>cx 241 [vp E,.agg ⟨[vi (i64.wrap (H+1)),vi i,vi w,vi d.e1,vi d.e2,.int .u64 (u64.wrap d.e3),vi (i64.wrap (P+d.e4)),vi 0,vi 1,vi 0]⟩] ci h5 λ(n6:Int) h6=>ZB (n6 != 0) (Q n6 h6) (ZM p λa8=>ZC ci ⟨a8.block,a8.off+13,none⟩ h6 λ(n7:Int)=>ZM p λa9=>ZS ci ⟨a9.block,a9.off+13,none⟩ (i64.wrap (n7+1)) h6 λh7=>ZM p λA=>ZC cP ⟨A.block,A.off+7,none⟩ h7 λF=>cx 242 [vp F,.agg ⟨[vi (i64.wrap (P+d.e4)),vi 1,vi (i64.wrap (H+1))]⟩] cB h7 λ(t4:Bool) h8=>ZJ (Obj.cells ⟨[vi j,vi (i64.wrap (H+1))]⟩ 2) h8 λk1 h9=>cx 91 [vp p,vi i,vi 18,.slice (sj k1) 2 2] (ZV []) h9 λu1 I=>Ze (0:Int) I λJ1 D r=>ZB (decide (D<8)) (ZT (λu2 L=>J1 (i64.wrap (D+1)) L) λ(R:PUnit->Hp->Prop)=>0<=u64.wrap D/\ZB (ZCe u64 (ZBK u64 (u64.wrap d.e3) (u64.wrap D)) (1:Int)==1) (atP 6 0 (atP 6 1 (ZJ (Obj.cells ⟨[vi (i64.wrap (H+1)),vi d.e0,vi d.e1,vi d.e2,vi (i64.wrap (P+d.e4))]⟩ 2) r λk2 M=>cx 91 [vp p,vi D,vi 22,.slice (sj k2) 5 5] (ZV []) M λu3 N=>R PUnit.unit N))) (R PUnit.unit r)) (Q 0 r)))))))) λV=>atP 6 4 (ZB (decide (d.e4<1)) (V true h4) (atP 6 4 (V (decide (d.e4>1000)) h4))))) λW=>ZB (n2==0) (ZM p λC=>atP 6 3 (ZC cP ⟨C.block,C.off+4,none⟩ h3 λG=>cx 240 [vp G,vi i,.int .u64 (u64.wrap d.e3)] ci h3 W)) (W n2 h3))))) λX=>atP 6 1 (ZB (d.e1 != 1) (atP 6 1 (X (d.e1 != 2) h1)) (X false h1))))):cx 154 [vp p,vi i,vi j,ZBy.enc d] ci h Q:=cc (mkA 2176 [(14,7),(19,7),(23,7),(42,7),(52,7),(59,7),(63,7),(74,7),(76,7),(78,7),(85,7),(109,11),(111,11),(118,11),(126,11),(135,11),(137,7),(139,7),(141,11),(143,11)] 0 (bc [(7,ZBy),(11,Zx)])) (dh 0x4418b30227aa6b340289e7980a1cc05131a2d980a26028730144d2 [.j [(26,false,cB)] 133693440,.o 11 [407],.j [(10,false,ci)] 72022409665840128,.o 10 [247],.j [(66,false,cB)] (mq [59,67]),.o 24 [5111783],.o 7 [23],.o 10 [503],.l [(12,false,ci)] (mq [12,13,122,147]),.k [] (mq [126,147])]) hk
theorem c155{o:Int}(hk:ZM p λP=>ZC cP ⟨P.block,P.off+6,none⟩ h λD=>cx 93 [vp D,vi l] (ZV [Zx,cB]) h λ(r:Ask×Bool) h1=>ZB (!r.snd) (Q 4 h1) (0<=u64.wrap i/\ZB (ZCe u64 (ZBK u64 r.fst.Dealers (u64.wrap i)) (1:Int)==0) (Q 5 h1) (ZB (r.fst.State != 1) (Q 11 h1) (ZM p λX=>ZC cSl (X.add 0) h1 λ(s1:Sl)=>Zb s1.a s1.len r.fst.Bond λa3=>ZC cB ⟨(a3.add (r.fst.Bond.toNat*7)).block,(a3.add (r.fst.Bond.toNat*7)).off+6,none⟩ h1 λ(t1:Bool)=>ZB t1 (Q 6 h1) (ZM p λa4=>ZC cSl (a4.add 0) h1 λ(s2:Sl)=>Zb s2.a s2.len r.fst.Bond λa5=>ZC Zs (a5.add (r.fst.Bond.toNat*7)) h1 λ(x1:Bond)=>cx 243 [Zs.enc x1,vi m] ci h1 λ(W:Int) h2=>ZB (W != 0) (Q W h2) (ZT (λ(t2:Bool) h3=>ZB t2 (Q 1 h3) (ZM p λa6=>ZC ci ⟨a6.block,a6.off+12,none⟩ h3 λ(n2:Int)=>ZM p λR=>ZS ci ⟨R.block,R.off+12,none⟩ (i64.wrap (n2+1)) h3 λH=>ZM p λV=>ZM p λa9=>ZC ci ⟨V.block,V.off+12,none⟩ H λ(n3:Int)=>ZC ci ⟨a9.block,a9.off+2,none⟩ H λ(M:Int)=>ZM p λw=>ZC cP ⟨w.block,w.off+5,none⟩ H λE=>cx 244 [vp E,.agg ⟨[vi n3,vi l,vi i,vi m,vi (i64.wrap (M+o)),.bool true]⟩] (ZV [ci,ci]) H λ(z2:Int×Int) h5=>ZM p λA=>ZC cP ⟨A.block,A.off+7,none⟩ h5 λF=>cx 99 [vp F,vi 3,vi z2.fst] cB h5 λ(t3:Bool) h6=>ZM p λC=>ZC cP ⟨C.block,C.off+7,none⟩ h6 λG=>cx 242 [vp G,.agg ⟨[vi (i64.wrap (M+o)),vi 3,vi n3]⟩] cB h6 λ(t4:Bool) h7=>ZJ (Obj.cells ⟨[vi j,vi n3]⟩ 2) h7 λk1 Y=>cx 91 [vp p,vi i,vi 18,.slice (sj k1) 2 2] (ZV []) Y λu1 Z=>ZJ (Obj.cells ⟨[vi l,vi n3,vi m,vi (i64.wrap (M+o))]⟩ 2) Z λk2 I=>cx 91 [vp p,vi r.fst.Client,vi 23,.slice (sj k2) 4 4] (ZV []) I λu2 L=>Q 0 L)) λN=>ZB (decide (o<1)) (N true h2) (N (decide (o>1000)) h2))))))):cx 155 [vp p,vi i,vi j,vi l,vi m,vi o] ci h Q:=cc (mkA 73728 [(32,13),(40,13),(48,13),(57,13),(112,16),(114,16),(121,16),(126,13),(129,16),(132,16)] 0 (bc [(13,Zx),(16,ZP)])) (dh 0x4966b3cd00a1cc0513cc05330a20a20a2ad2 [.o 10 [55],.o 11 [311],.j [(71,false,cB)] (mq [66,72]),.o 16 [19447],.o 11 [23],.o 10 [503]]) hk
theorem c156(M:ZM p λE=>ZC cP ⟨E.block,E.off+5,none⟩ h λr=>cx 245 [vp r,vi l] (ZV [ZP,cB]) h λ(C:Za×Bool) h1=>ZM p λF=>ZC cP ⟨F.block,F.off+6,none⟩ h1 λw=>cx 93 [vp w,vi C.fst.Ask] (ZV [Zx,cB]) h1 λ(H:Ask×Bool) h2=>ZB (!C.snd) (Q 4 h2) (ZB (C.fst.Dealer != i) (Q 5 h2) (ZT (λ(P:Bool) h3=>ZB P (Q 11 h3) (ZM p λa3=>ZC cP ⟨a3.block,a3.off+5,none⟩ h3 λA=>cx 246 [vp A,vi l,vi i] ci h3 λ(G:Int) h4=>ZB (G != 0) (Q G h4) (ZM p λa4=>ZC cP ⟨a4.block,a4.off+7,none⟩ h4 λN=>cx 99 [vp N,vi 3,vi l] cB h4 λ(R:Bool) h5=>ZJ (Obj.cells ⟨[vi j,vi l]⟩ 2) h5 λk1 I=>cx 91 [vp p,vi i,vi 18,.slice (sj k1) 2 2] (ZV []) I λV L=>Q 0 L))) λD=>ZB (H.fst.State==2) (D (H.fst.Hit==l) h2) (D false h2)))):cx 156 [vp p,vi i,vi j,vi l] ci h Q:=cc (mkA 2560 [(28,9),(37,9),(42,11),(46,11)] 0 (bc [(9,ZP),(11,Zx)])) (dh 0x1240289a0143828828abcd2 [.o 13 [1079],.j [(41,false,cB)] (mq [41,51])]) M
theorem c157(hk:ZM p λY=>ZC cP ⟨Y.block,Y.off+5,none⟩ h λI=>cx 245 [vp I,vi l] (ZV [ZP,cB]) h λ(w:Za×Bool) h1=>ZM p λZ=>ZC cP ⟨Z.block,Z.off+6,none⟩ h1 λL=>cx 93 [vp L,vi w.fst.Ask] (ZV [Zx,cB]) h1 λ(r:Ask×Bool) h2=>ZB (!w.snd) (Q 4 h2) (ZB (r.fst.Client != i) (Q 5 h2) (ZB (r.fst.State != 1) (Q 11 h2) (ZT (λ(t1:Bool) h3=>ZB t1 (Q 12 h3) (ZM p λa3=>ZC cSl (a3.add 0) h3 λ(s1:Sl)=>Zb s1.a s1.len r.fst.Bond λa4=>ZC cB ⟨(a4.add (r.fst.Bond.toNat*7)).block,(a4.add (r.fst.Bond.toNat*7)).off+6,none⟩ h3 λ(t2:Bool)=>ZB t2 (Q 6 h3) (ZM p λa5=>ZC cSl ⟨a5.block,a5.off+3,none⟩ h3 λ(s2:Sl)=>Zb s2.a s2.len r.fst.Bond λa6=>ZC cP (a6.add (r.fst.Bond.toNat*1)) h3 λM=>cx 247 [vp M,vi r.fst.Side,vi w.fst.Price,vi r.fst.Qty] ci h3 λ(n1:Int) h4=>ZT (λ(n2:Int) h5=>ZB (n2 != 0) (Q n2 h5) (ZM p λa7=>ZM p λa8=>ZM p λa9=>ZC cP ⟨a7.block,a7.off+6,none⟩ h5 λp4=>ZC ci ⟨a8.block,a8.off+2,none⟩ h5 λ(n3:Int)=>ZC ci ⟨a9.block,a9.off+1,none⟩ h5 λ(n4:Int)=>cx 249 [vp p4,vi r.fst.ID,vi l,vi (i64.wrap (n3+n4))] ci h5 λ(n5:Int) h6=>ZM p λA=>ZM p λC=>ZM p λD=>ZC cP ⟨A.block,A.off+7,none⟩ h6 λp5=>ZC ci ⟨C.block,C.off+2,none⟩ h6 λ(n6:Int)=>ZC ci ⟨D.block,D.off+1,none⟩ h6 λ(n7:Int)=>cx 242 [vp p5,.agg ⟨[vi (i64.wrap (n6+n7)),vi 2,vi r.fst.ID]⟩] cB h6 λ(t3:Bool) h7=>ZJ (Obj.cells ⟨[vi j,vi r.fst.ID]⟩ 2) h7 λk1 h8=>cx 91 [vp p,vi i,vi 18,.slice (sj k1) 2 2] (ZV []) h8 λu1 R=>ZM p λE=>ZM p λF=>ZC ci ⟨E.block,E.off+2,none⟩ R λ(n8:Int)=>ZC ci ⟨F.block,F.off+1,none⟩ R λ(n9:Int)=>ZJ (Obj.cells ⟨[vi r.fst.ID,vi l,vi (i64.wrap (n8+n9))]⟩ 2) R λk2 N=>cx 91 [vp p,vi w.fst.Dealer,vi 24,.slice (sj k2) 3 3] (ZV []) N λu2 P=>Q 0 P)) λW=>ZB (n1==0) (ZM p λG=>ZC cP ⟨G.block,G.off+4,none⟩ h4 λp6=>cx 248 [vp p6,vi w.fst.Dealer,vi w.fst.Price,vi r.fst.Qty] ci h4 W) (W n1 h4)))) λX=>ZB (!w.fst.Live) (X true h2) (ZM p λH=>ZC ci ⟨H.block,H.off+2,none⟩ h2 λ(V:Int)=>X (decide (w.fst.Expires<=V)) h2))))):cx 157 [vp p,vi i,vi j,vi l] ci h Q:=cc (mkA 2560 [(28,9),(37,11),(42,11),(46,9),(50,9),(63,11),(72,11),(76,11),(78,9),(80,11),(89,9),(91,9),(93,11),(103,11),(129,11),(136,11),(141,9),(143,11)] 0 (bc [(9,ZP),(11,Zx)])) (dh 0x166b3cc05131a2d980a6614d828828828abcd2 [.o 13 [1079],.j [(45,false,cB)] (mq [45,58]),.o 13 [],.o 10 [55],.o 16 [16183],.j [(13,false,ci)] (mq [13,14,83,96]),.o 12 [1015],.o 17 [15351],.o 17 [26487],.o 17 [7679]]) hk
theorem c158(F:ZM p λC=>ZC cP ⟨C.block,C.off+6,none⟩ h λr=>cx 93 [vp r,vi l] (ZV [Zx,cB]) h λ(A:Ask×Bool) h1=>ZB (!A.snd) (Q 4 h1) (ZB (A.fst.Client != i) (Q 5 h1) (ZB (A.fst.State != 1) (Q 11 h1) (ZM p λD=>ZM p λa3=>ZC cP ⟨D.block,D.off+5,none⟩ h1 λw=>ZC ci ⟨a3.block,a3.off+2,none⟩ h1 λ(G:Int)=>cx 251 [vp w,vi l,vi G] cSl h1 λ(s1:Sl) h2=>cx 250 [vi A.fst.Side,.slice s1.a s1.len s1.cap] (ZV [ZP,cB]) h2 λ(E:Za×Bool) h3=>ZB (!E.snd) (Q 12 h3) (cx 157 [vp p,vi i,vi j,vi E.fst.ID] ci h3 Q))))):cx 158 [vp p,vi i,vi j,vi l] ci h Q:=cc (mkA 2560 [(26,9),(31,9),(35,9),(55,11)] 0 (bc [(9,Zx),(11,ZP)])) (dh 0x100a27980a20a20a2ad2 [.o 19 [66527]]) F
theorem c159(V:cx 252 [vp p,vi i,vi l] (ZV [Zx,ZP,ci]) h λ(r:Ask×Za×Int) h1=>ZB (r.snd.snd != 0) (Q r.snd.snd h1) (ZM p λL=>ZC cSl (L.add 0) h1 λ(s1:Sl)=>Zb s1.a s1.len r.fst.Bond λF=>ZC cB ⟨(F.add (r.fst.Bond.toNat*7)).block,(F.add (r.fst.Bond.toNat*7)).off+6,none⟩ h1 λ(Y:Bool)=>ZB Y (Q 6 h1) (ZM p λa3=>ZC cSl ⟨a3.block,a3.off+3,none⟩ h1 λ(s2:Sl)=>Zb s2.a s2.len r.fst.Bond λa4=>ZC cP (a4.add (r.fst.Bond.toNat*1)) h1 λw=>cx 247 [vp w,vi r.fst.Side,vi r.snd.fst.Price,vi r.fst.Qty] ci h1 λ(H:Int) h2=>ZT (λ(I:Int) h3=>ZB (I != 0) (Q I h3) (ZM p λa5=>ZC cP ⟨a5.block,a5.off+6,none⟩ h3 λA=>cx 164 [vp A,vi l,vi 3] ci h3 λ(n3:Int) h4=>cx 165 [vp p,vi l] (ZV []) h4 λu1 M=>ZJ (Obj.cells ⟨[vi j,vi l]⟩ 2) M λk1 N=>cx 91 [vp p,vi i,vi 18,.slice (sj k1) 2 2] (ZV []) N λu2 P=>ZJ (Obj.cells ⟨[vi l,vi r.snd.fst.Price]⟩ 2) P λW R=>cx 91 [vp p,vi r.fst.Client,vi 26,.slice (sj W) 2 2] (ZV []) R λu3 G=>ZT (λ(Z:Z2) h10=>cx 254 [vp p,Zl.enc Z] (ZV []) h10 λu4 C=>Q 0 C) λD=>ZB (r.fst.Side==2) (D {ID:=0,Bond:=r.fst.Bond,Buyer:=i,Seller:=r.fst.Client,Price:=r.snd.fst.Price,Qty:=r.fst.Qty,Ask:=l,Tick:=0:Z2} G) (D {ID:=0,Bond:=r.fst.Bond,Buyer:=r.fst.Client,Seller:=i,Price:=r.snd.fst.Price,Qty:=r.fst.Qty,Ask:=l,Tick:=0:Z2} G))) λE=>ZB (H==0) (ZM p λa6=>ZC cP ⟨a6.block,a6.off+4,none⟩ h2 λX=>cx 253 [vp X,vi i,vi r.snd.fst.Price,vi r.fst.Qty] ci h2 E) (E H h2)))):cx 159 [vp p,vi i,vi j,vi l] ci h Q:=cc (mkA 5632 [(28,9),(37,9),(41,9),(43,10),(45,9),(55,10),(57,9),(79,9),(82,10),(86,9),(88,9),(91,10),(93,9),(97,9),(101,9),(103,12),(104,12)] 0 (bc [(9,Zx),(10,ZP),(12,Zl)])) (dh 0x4868b24920144c68b660299b0144d2 [.o 9 [55],.o 16 [16183],.j [(11,false,ci)] (mq [11,12,48,60]),.o 11 [503],.j [(12,true,Zl)] (mq [12,13,97,105]),.o 7 []]) V
theorem c160(D:cx 252 [vp p,vi i,vi l] (ZV [Zx,ZP,ci]) h λ(r:Ask×Za×Int) h1=>ZB (r.snd.snd != 0) (Q r.snd.snd h1) (ZJ (Obj.cells ⟨[vi j,vi l]⟩ 2) h1 λk1 w=>cx 91 [vp p,vi i,vi 18,.slice (sj k1) 2 2] (ZV []) w λE A=>cx 95 [vp p,Zx.enc r.fst] (ZV []) A λF C=>Q 0 C)):cx 160 [vp p,vi i,vi j,vi l] ci h Q:=cc (mkA 1536 [] 0 (bc [(9,Zx),(10,ZP)])) (dh 2449556690 []) D
theorem c161(F:ZM p λA=>ZC cP ⟨A.block,A.off+6,none⟩ h λr=>cx 93 [vp r,vi l] (ZV [Zx,cB]) h λ(w:Ask×Bool) h1=>ZB (!w.snd) (Q 4 h1) (ZB (w.fst.Client != i) (Q 5 h1) (ZB (w.fst.State != 1) (Q 11 h1) (ZJ (Obj.cells ⟨[vi j,vi l]⟩ 2) h1 λk1 C=>cx 91 [vp p,vi i,vi 18,.slice (sj k1) 2 2] (ZV []) C λG D=>cx 94 [vp p,Zx.enc w.fst] (ZV []) D λH E=>Q 0 E)))):cx 161 [vp p,vi i,vi j,vi l] ci h Q:=cc (mkA 512 [(24,9),(29,9)] 0 (bc [(9,Zx)])) (dh 0x4900a20a20a2ad2 []) F
theorem c162(G:cx 233 [vp p,vi l] ci h λ(r:Int) h1=>ZB (decide (r<0)) (Q 4 h1) (ZT (λ(H:Bool) h2=>ZB H (Q 1 h2) (ZM p λC=>ZC cSl (C.add 0) h2 λ(s1:Sl)=>Zb s1.a s1.len r λA=>ZS cB ⟨(A.add (r.toNat*7)).block,(A.add (r.toNat*7)).off+6,none⟩ (m==1) h2 λD=>ZJ (Obj.cells ⟨[vi j,vi l]⟩ 2) D λk1 E=>cx 91 [vp p,vi i,vi 18,.slice (sj k1) 2 2] (ZV []) E λI F=>Q 0 F)) λw=>ZB (m != 0) (w (m != 1) h1) (w false h1))):cx 162 [vp p,vi i,vi j,vi l,vi m] ci h Q:=cd0 (dh 642136501005010 [.j [(18,false,cB)] 33292288]) G
theorem c165(F:ZM p λC=>ZC cP ⟨C.block,C.off+5,none⟩ h λw=>cx 255 [vp w,vi i] cSl h λ(s1:Sl) h1=>Ze (0:Int) h1 λE A r=>ZB (decide (A<s1.len)) (ZM p λD=>Zb s1.a s1.len A λa3=>ZC cP ⟨D.block,D.off+7,none⟩ r λH=>ZC ci (a3.add (A.toNat*1)) r λ(G:Int)=>cx 99 [vp H,vi 3,vi G] cB r λ(M:Bool) h3=>E (i64.wrap (A+1)) h3) (ZM p λa4=>ZC cP ⟨a4.block,a4.off+7,none⟩ r λI=>cx 99 [vp I,vi 1,vi i] cB r λ(N:Bool) h4=>ZM p λa5=>ZC cP ⟨a5.block,a5.off+7,none⟩ h4 λL=>cx 99 [vp L,vi 2,vi i] cB h4 λ(t3:Bool) h5=>U PUnit.unit h5)):cx 165 [vp p,vi i] (ZV []) h U:=cd0 (dh 44988717722266 [.l [(5,false,ci)] 134213664,.o 9 [119]]) F
theorem c233(A:ZT (λ(C:Bool) h1=>ZB C (Q (-1) h1) (Q i h1)) λr=>ZB (decide (i<0)) (r true h) (ZM p λw=>ZC cSl (w.add 0) h λ(s1:Sl)=>r (decide (i>=(s1.len:Int))) h)):cx 233 [vp p,vi i] ci h Q:=cd0 (dh 33637274 [.j [(15,false,cB)] 65504]) A
theorem c237{d:ZE}(hk:Ze (0:Int) h λN w D=>ZB (decide (w<t.len)) (Zb t.a t.len w λR=>Zb t.a t.len w λL=>ZC ci ((R.add (w.toNat*3)).add 0) D λ(n2:Int)=>ZC ci ⟨(L.add (w.toNat*3)).block,(L.add (w.toNat*3)).off+2,none⟩ D λ(n3:Int)=>ZJ (Obj.cells ⟨[vi n2,vi n3]⟩ 2) D λk1 V=>cx 91 [vp p,vi i,vi 21,.slice (sj k1) 2 2] (ZV []) V λu1 W=>N (i64.wrap (w+1)) W) (Ze (d.Left,(0:Int)) D λP A C=>ZB (decide (A.snd<s.len)) (Zb s.a s.len A.snd λa3=>ZC ZCX (a3.add (A.snd.toNat*7)) C λ(r:ZIo)=>ZJ (Obj.cells ⟨[vi r.Maker,vi r.Price,vi r.Qty,vi r.Left]⟩ 2) C λk2 X=>cx 91 [vp p,vi r.MakerParty,vi 20,.slice (sj k2) 4 4] (ZV []) X λu2 Y=>ZJ (Obj.cells ⟨[vi d.ID,vi r.Price,vi r.Qty,vi (i64.wrap (A.fst-r.Qty))]⟩ 2) Y λk3 Z=>cx 91 [vp p,vi i,vi 20,.slice (sj k3) 4 4] (ZV []) Z λu3 M=>ZT (λ(x2:Z2) h9=>cx 254 [vp p,Zl.enc x2] (ZV []) h9 λu4 F=>P (i64.wrap (A.fst-r.Qty),i64.wrap (A.snd+1)) F) λI=>ZB (d.Side==2) (I {ID:=0,Bond:=j,Buyer:=r.MakerParty,Seller:=i,Price:=r.Price,Qty:=r.Qty,Ask:=0,Tick:=0:Z2} M) (I {ID:=0,Bond:=j,Buyer:=i,Seller:=r.MakerParty,Price:=r.Price,Qty:=r.Qty,Ask:=0,Tick:=0:Z2} M)) (ZT (λ(t1:Bool) h11=>ZB t1 (ZJ (Obj.cells ⟨[vi d.ID,vi m]⟩ 2) h11 λk4 G=>cx 91 [vp p,vi i,vi 21,.slice (sj k4) 2 2] (ZV []) G λu5 H=>U PUnit.unit H) (U PUnit.unit h11)) λE=>ZB (l != 0) (ZB (l != 3) (E (decide (m>0)) C) (E false C)) (E false C)))):cx 237 [vp p,vi i,ZF.enc d,vi j,vi l,.slice s.a s.len s.cap,.slice t.a t.len t.cap,vi m] (ZV []) h U:=cc (mkA 1573888 [(41,10),(54,19),(58,19),(60,19),(62,19),(64,19),(66,19),(72,10),(74,19),(76,19),(83,19),(85,19),(87,19),(90,10),(93,19),(96,20),(97,20),(113,10)] 0 (bc [(10,ZF),(19,ZCX),(20,Zl)])) (dh 0xc389062c924ab0227aa68eac089ea9a [.l [(16,false,ci)] 2199021223936,.o 14 [1983],.l [(17,false,ci),(18,false,ci)] (mq [17,21,43,101]),.j [(20,true,Zl)] (mq [20,21,90,98]),.j [(110,false,cB)] (mq [101,111])]) hk
theorem c238{Q:ZE×Int->Hp->Prop}(G:Ze ({ID:=0,Seq:=0,Owner:=0,Side:=0,Price:=0,Left:=0:ZE},(0:Int)) h λF r w=>ZM p λC=>ZC cSl ⟨C.block,C.off+3,none⟩ w λ(s1:Sl)=>ZB (decide (r.snd<s1.len)) (ZM p λD=>ZC cSl ⟨D.block,D.off+3,none⟩ w λ(s2:Sl)=>Zb s2.a s2.len r.snd λa3=>ZC cP (a3.add (r.snd.toNat*1)) w λA=>cx 304 [vp A,vi i] (ZV [ZF,cB]) w λ(E:ZE×Bool) h2=>ZB E.snd (Q (E.fst,r.snd) h2) (F (r.fst,i64.wrap (r.snd+1)) h2)) (Q ({ID:=0,Seq:=0,Owner:=0,Side:=0,Price:=0,Left:=0:ZE},(-1)) w)):cx 238 [vp p,vi i] (ZV [ZF,ci]) h Q:=cc (mkA 144 [] 0 (bc [(4,ZF),(7,ZF)])) (dh 0x440512ac089ea9a [.l [(4,true,ZF),(6,false,ci)] 8589934576]) G
theorem c252{Q:Ask×Za×Int->Hp->Prop}(E:ZM p λC=>ZC cP ⟨C.block,C.off+6,none⟩ h λw=>cx 93 [vp w,vi j] (ZV [Zx,cB]) h λ(r:Ask×Bool) h1=>ZM p λD=>ZC cP ⟨D.block,D.off+5,none⟩ h1 λF=>cx 245 [vp F,vi r.fst.Hit] (ZV [ZP,cB]) h1 λ(A:Za×Bool) h2=>ZB (!r.snd) (Q (r.fst,A.fst,4) h2) (ZB (r.fst.State != 2) (Q (r.fst,A.fst,11) h2) (ZB (A.fst.Dealer != i) (Q (r.fst,A.fst,5) h2) (Q (r.fst,A.fst,0) h2)))):cx 252 [vp p,vi i,vi j] (ZV [Zx,ZP,ci]) h Q:=cc (mkA 2752 [(27,9),(38,9),(44,11)] 0 (bc [(6,Zx),(7,ZP),(9,Zx),(11,ZP)])) (dh 0xcc0ce219c4338abcd2 [.o 13 [1079],.o 5 [],.o 5 [],.o 5 [],.o 5 []]) E
theorem c254{d:Z2}(E:ZM p λw=>ZC ci ⟨w.block,w.off+2,none⟩ h λ(C:Int)=>ZM p λA=>ZC cP ⟨A.block,A.off+8,none⟩ h λr=>cx 310 [vp r,.agg ⟨[vi d.ID,vi d.Bond,vi d.Buyer,vi d.Seller,vi d.Price,vi d.Qty,vi d.Ask,vi C]⟩] ci h λ(L:Int) h1=>ZM p λa3=>ZM p λa4=>ZC cSl ⟨a3.block,a3.off+14,none⟩ h1 λ(s1:Sl)=>ZC cP ⟨a4.block,a4.off+9,none⟩ h1 λG=>cx 312 [vp G,.agg ⟨[vi d.ID,vi d.Bond,vi d.Buyer,vi d.Seller,vi d.Price,vi d.Qty,vi d.Ask,vi C]⟩] Zl h1 λ(I:Z2) h2=>(h2.rds ⟨a3.block,a3.off+14,none⟩ [.slice s1.a s1.len s1.cap]/\True)/\cx 311 [Zl.enc I] cSl h2 λ(s2:Sl) h3=>(h3.rds ⟨a3.block,a3.off+14,none⟩ [.slice s1.a s1.len s1.cap]/\True)/\ZR ZCH 78 64 s1.a s1.len s1.cap s2.a s2.len h3 λH (k1 F:Nat) h4=>ZM p λa5=>ZS cSl ⟨a5.block,a5.off+14,none⟩ ⟨H,k1,F⟩ h4 λD=>U PUnit.unit D):cx 254 [vp p,Zl.enc d] (ZV []) h U:=cc (mkA 8 [(8,3)] 0 (bc [(3,Zl)])) (dh 27858 [.o 6 [23],.c (.reg [(0,[]),(1,[]),(2,[]),(3,[]),(5,[]),(6,[]),(7,[]),(9,[]),(4,[]),(8,[]),(10,[4]),(11,[4]),(12,[]),(13,[]),(14,[]),(15,[])])]) E
theorem c47(hk:Ze ({a:=none,len:=0,cap:=0:Sl},(0:Int)) h λJ1 r D=>ZM p λa1=>ZC cSl (a1.add 0) D λ(s1:Sl)=>ZB (decide (r.snd<s1.len)) (ZT (λ(s2:Sl) h2=>J1 (s2,i64.wrap (r.snd+1)) h2) λH=>ZM p λa2=>ZC cSl (a2.add 0) D λ(s3:Sl)=>Zb s3.a s3.len r.snd λa3=>ZC ci ⟨(a3.add (r.snd.toNat*6)).block,(a3.add (r.snd.toNat*6)).off+3,none⟩ D λ(n1:Int)=>ZB (n1 != i) (H r.fst D) (Ze (0:Int) D λJ3 w E=>ZT (λ(t1:Bool) h4=>ZB t1 (J3 (i64.wrap (w+1)) h4) ((Z3 r.fst.len r.fst.cap none (some w) λ(k1 k2:Nat)=>ZM p λa4=>Z3 r.fst.len r.fst.cap (some w) none λ(k3 k4:Nat)=>ZC cSl (a4.add 0) h4 λ(s4:Sl)=>Zb s4.a s4.len r.snd λa5=>ZC ZF (a5.add (r.snd.toNat*6)) h4 λ(A:ZE)=>ZJ (Obj.cells ⟨[]⟩ 74) h4 λk5 h5=>ZR ZF 74 48 (sj k5) 0 0 (Zh r.fst.a k1 r.fst.cap 6) (k2-k1) h5 λp1 (k6 k7:Nat) h6=>(h6.rds (a4.add 0) [.slice s4.a s4.len s4.cap]/\h6.rds (a5.add (r.snd.toNat*6)) [vi A.ID,vi A.Seq,vi A.Owner,vi A.Side,vi A.Price,vi A.Left]/\True)/\ZJ (Obj.cells ⟨eOrder A⟩ 74) h6 λk8 h7=>ZR ZF 74 48 p1 k6 k7 (sj k8) 1 h7 λp2 (k9 N:Nat) h8=>ZR ZF 74 48 p2 k9 N (Zh r.fst.a k3 r.fst.cap 6) (k4-k3) h8 λp3 (P R:Nat) h9=>H ⟨p3,P,R⟩ h9)/\Z3 r.fst.len r.fst.cap none (some w) λ(F V:Nat)=>ZM p λa6=>Z3 r.fst.len r.fst.cap (some w) none λ(G W:Nat)=>ZC cSl (a6.add 0) h4 λ(s5:Sl)=>Zb s5.a s5.len r.snd λa7=>ZC ZF (a7.add (r.snd.toNat*6)) h4 λ(C:ZE)=>ZJ (Obj.cells ⟨[]⟩ 74) h4 λX L=>ZJ (Obj.cells ⟨eOrder C⟩ 74) L λY M=>ZR ZF 74 48 (sj X) 0 0 (Zh r.fst.a F r.fst.cap 6) (V-F) M λp4 (Z ab:Nat) h12=>(h12.rds (a6.add 0) [.slice s5.a s5.len s5.cap]/\h12.rds (a7.add (r.snd.toNat*6)) [vi C.ID,vi C.Seq,vi C.Owner,vi C.Side,vi C.Price,vi C.Left]/\True)/\ZR ZF 74 48 p4 Z ab (sj Y) 1 h12 λp5 (ac ae:Nat) h13=>ZR ZF 74 48 p5 ac ae (Zh r.fst.a G r.fst.cap 6) (W-G) h13 λp6 (ah aj:Nat) h14=>H ⟨p6,ah,aj⟩ h14)) λJ4=>ZB (decide (w<r.fst.len)) (Zb r.fst.a r.fst.len w λa8=>ZM p λa9=>ZC ZF (a8.add (w.toNat*6)) E λ(x3:ZE)=>ZC cSl (a9.add 0) E λ(s6:Sl)=>Zb s6.a s6.len r.snd λI=>ZC ZF (I.add (r.snd.toNat*6)) E λ(x4:ZE)=>cx 77 [ZF.enc x3,ZF.enc x4] cB E J4) (J4 false E))) (S r.fst D)):cx 47 [vp p,vi i] (cSl) h S:=cd0 (dh 0x238d026cf568089e6044f54d2 [.l [(5,false,cSl),(6,false,ci)] (mq [5,65]),.k [(5,false,cSl)] (mq [5,6,7,8,17,65]),.l [(7,false,ci)] 140737354137728,.j [(44,false,cB)] (mq [27,45]),.o 18 [12031],.c (.regT (.node 4 12 (.leaf [(1,[]),(2,[]),(3,[]),(5,[]),(6,[]),(7,[]),(9,[]),(14,[]),(15,[]),(16,[]),(8,[]),(10,[]),(11,[]),(0,[]),(4,[8,11]),(12,[]),(13,[]),(17,[]),(18,[])]) (.leaf [(1,[]),(2,[]),(3,[]),(5,[]),(6,[]),(7,[]),(9,[]),(14,[]),(15,[]),(16,[]),(8,[]),(10,[]),(11,[]),(0,[]),(12,[]),(4,[8,11]),(13,[]),(17,[]),(18,[])])))]) hk
theorem c241(hk:ZT (λ(t1:Bool) h1=>ZB t1 (Q 1 h1) (cx 305 [vp p] ci h1 λ(n1:Int) h2=>ZB (decide (n1>=32)) (Q 3 h2) (Ze (0:Int) h2 λJ1 w A=>ZT (λ(t2:Bool) h4=>ZB t2 (J1 (i64.wrap (w+1)) h4) ((ZM p λa1=>ZM p λF=>ZC cSl (a1.add 0) h4 λ(s1:Sl)=>Z3 s1.len s1.cap none (some w) λ(k1 k2:Nat)=>ZC cSl (F.add 0) h4 λ(s2:Sl)=>Z3 s2.len s2.cap (some w) none λ(k3 k4:Nat)=>ZJ (Obj.cells ⟨[]⟩ 50) h4 λk5 h5=>ZR Zx 50 80 (sj k5) 0 0 (Zh s1.a k1 s1.cap 10) (k2-k1) h5 λE (k6 k7:Nat) h6=>(h6.rds (F.add 0) [.slice s2.a s2.len s2.cap]/\True)/\ZJ (Obj.cells ⟨eAsk d⟩ 50) h6 λk8 h7=>ZR Zx 50 80 E k6 k7 (sj k8) 1 h7 λp2 (k9 M:Nat) h8=>(h8.rds (F.add 0) [.slice s2.a s2.len s2.cap]/\True)/\ZR Zx 50 80 p2 k9 M (Zh s2.a k3 s2.cap 10) (k4-k3) h8 λp3 (N P:Nat) h9=>ZM p λa3=>ZS cSl (a3.add 0) ⟨p3,N,P⟩ h9 λG=>Q 0 G)/\ZM p λa4=>ZM p λa5=>ZC cSl (a4.add 0) h4 λ(s3:Sl)=>Z3 s3.len s3.cap none (some w) λ(C R:Nat)=>ZC cSl (a5.add 0) h4 λ(s4:Sl)=>Z3 s4.len s4.cap (some w) none λ(D V:Nat)=>ZJ (Obj.cells ⟨[]⟩ 50) h4 λW H=>ZJ (Obj.cells ⟨eAsk d⟩ 50) H λX I=>ZR Zx 50 80 (sj W) 0 0 (Zh s3.a C s3.cap 10) (R-C) I λp4 (Y Z:Nat) h13=>(h13.rds (a5.add 0) [.slice s4.a s4.len s4.cap]/\True)/\ZR Zx 50 80 p4 Y Z (sj X) 1 h13 λp5 (ab ac:Nat) h14=>(h14.rds (a5.add 0) [.slice s4.a s4.len s4.cap]/\True)/\ZR Zx 50 80 p5 ab ac (Zh s4.a D s4.cap 10) (V-D) h14 λp6 (ae ah:Nat) h15=>ZM p λa6=>ZS cSl (a6.add 0) ⟨p6,ae,ah⟩ h15 λL=>Q 0 L)) λJ2=>ZM p λa7=>ZC cSl (a7.add 0) A λ(s5:Sl)=>ZB (decide (w<s5.len)) (ZM p λa8=>ZC cSl (a8.add 0) A λ(s6:Sl)=>Zb s6.a s6.len w λa9=>ZC ci ((a9.add (w.toNat*10)).add 0) A λ(n3:Int)=>J2 (decide (n3<d.ID)) A) (J2 false A)))) λr=>ZB (decide (d.ID<1)) (r true h) (ZB (decide (d.Qty<1)) (r true h) (ZB (decide (d.Client<0)) (r true h) (ZB (decide (d.Bond<0)) (r true h) (cx 59 [vi d.Side] cB h λ(t3:Bool) h17=>ZB (!t3) (r true h17) (ZB (d.Dealers==0) (r true h17) (ZB (d.State != 1) (r true h17) (ZB (d.Hit != 0) (r true h17) (ZB (d.Until != 0) (r true h17) (cx 163 [vp p,vi d.ID] ci h17 λ(n4:Int) h18=>r (decide (n4>=0)) h18)))))))))):cx 241 [vp p,Zx.enc d] ci h Q:=cc (mkA 8 [(6,3),(10,3),(15,3),(20,3),(25,3),(31,3),(36,3),(41,3),(46,3),(52,3),(76,3)] 0 (bc [(3,Zx)])) (dh 0x2ccd026cf568051301439a [.j [(56,false,cB)] (mq [6,57]),.l [(5,false,ci)] (mq [5,6,60,82]),.j [(79,false,cB)] (mq [60,80]),.o 20 [202751],.c (.regT (.node 8 10 (.leaf [(0,[]),(2,[]),(3,[]),(4,[]),(6,[]),(9,[]),(12,[]),(13,[]),(14,[]),(16,[]),(5,[]),(7,[]),(15,[]),(17,[]),(1,[]),(8,[15]),(10,[]),(11,[15]),(18,[]),(19,[]),(20,[]),(21,[])]) (.leaf [(0,[]),(2,[]),(3,[]),(4,[]),(6,[]),(9,[]),(12,[]),(13,[]),(14,[]),(16,[]),(5,[]),(7,[]),(15,[]),(17,[]),(1,[]),(10,[]),(8,[15]),(11,[15]),(18,[]),(19,[]),(20,[]),(21,[])])))]) hk
theorem c242{d:Due}(hk:Ze ((0:Int),(0:Int)) h λJ1 r w=>ZM p λa1=>ZC cSl (a1.add 0) w λ(s1:Sl)=>ZB (decide (r.snd<s1.len)) (ZT (λ(n1:Int) h2=>J1 (n1,i64.wrap (r.snd+1)) h2) λJ2=>ZT (λ(t1:Bool) h3=>ZB t1 (B false h3) (ZM p λa2=>ZC cSl (a2.add 0) h3 λ(s2:Sl)=>Zb s2.a s2.len r.snd λa3=>ZC ZAs (a3.add (r.snd.toNat*3)) h3 λ(x1:Due)=>cx 306 [ZAs.enc x1,ZAs.enc d] cB h3 λ(t2:Bool) h4=>ZB t2 (J2 (i64.wrap (r.snd+1)) h4) (J2 r.fst h4))) λJ3=>ZM p λa4=>ZC cSl (a4.add 0) w λ(s3:Sl)=>Zb s3.a s3.len r.snd λa5=>ZC ci ⟨(a5.add (r.snd.toNat*3)).block,(a5.add (r.snd.toNat*3)).off+1,none⟩ w λ(n2:Int)=>ZB (n2==d.Kind) (ZM p λa6=>ZC cSl (a6.add 0) w λ(s4:Sl)=>Zb s4.a s4.len r.snd λa7=>ZC ci ⟨(a7.add (r.snd.toNat*3)).block,(a7.add (r.snd.toNat*3)).off+2,none⟩ w λ(n3:Int)=>J3 (n3==d.ID) w) (J3 false w)) ((ZM p λa8=>ZM p λa9=>ZC cSl (a8.add 0) w λ(s5:Sl)=>Z3 s5.len s5.cap none (some r.fst) λ(k1 k2:Nat)=>ZC cSl (a9.add 0) w λ(s6:Sl)=>Z3 s6.len s6.cap (some r.fst) none λ(k3 k4:Nat)=>ZJ (Obj.cells ⟨[]⟩ 197) w λk5 h5=>ZR ZAs 197 24 (sj k5) 0 0 (Zh s5.a k1 s5.cap 3) (k2-k1) h5 λF (k6 k7:Nat) h6=>(h6.rds (a9.add 0) [.slice s6.a s6.len s6.cap]/\True)/\ZJ (Obj.cells ⟨eDue d⟩ 197) h6 λk8 h7=>ZR ZAs 197 24 F k6 k7 (sj k8) 1 h7 λp2 (k9 V:Nat) h8=>(h8.rds (a9.add 0) [.slice s6.a s6.len s6.cap]/\True)/\ZR ZAs 197 24 p2 k9 V (Zh s6.a k3 s6.cap 3) (k4-k3) h8 λp3 (W X:Nat) h9=>ZM p λH=>ZS cSl (H.add 0) ⟨p3,W,X⟩ h9 λM=>B true M)/\ZM p λI=>ZM p λC=>ZC cSl (I.add 0) w λ(G:Sl)=>Z3 G.len G.cap none (some r.fst) λ(D Y:Nat)=>ZC cSl (C.add 0) w λ(A:Sl)=>Z3 A.len A.cap (some r.fst) none λ(E Z:Nat)=>ZJ (Obj.cells ⟨[]⟩ 197) w λab N=>ZJ (Obj.cells ⟨eDue d⟩ 197) N λac P=>ZR ZAs 197 24 (sj ab) 0 0 (Zh G.a D G.cap 3) (Y-D) P λp4 (ae ah:Nat) h13=>(h13.rds (C.add 0) [.slice A.a A.len A.cap]/\True)/\ZR ZAs 197 24 p4 ae ah (sj ac) 1 h13 λp5 (aj ak:Nat) h14=>(h14.rds (C.add 0) [.slice A.a A.len A.cap]/\True)/\ZR ZAs 197 24 p5 aj ak (Zh A.a E A.cap 3) (Z-E) h14 λp6 (am ap:Nat) h15=>ZM p λL=>ZS cSl (L.add 0) ⟨p6,am,ap⟩ h15 λR=>B true R)):cx 242 [vp p,ZAs.enc d] (cB) h B:=cc (mkA 8 [(24,3),(36,3)] 0 (bc [(3,ZAs)])) (dh 0x2cc8333014d9e6044f54d2 [.l [(5,false,ci),(6,false,ci)] (mq [4,51]),.k [(5,false,ci)] (mq [4,6,16,51]),.j [(39,false,cB)] (mq [16,40]),.o 24 [791,3243240],.o 9 [151],.c (.regT (.node 8 10 (.leaf [(0,[]),(2,[]),(3,[]),(4,[]),(6,[]),(9,[]),(12,[]),(13,[]),(14,[]),(16,[]),(5,[]),(7,[]),(15,[]),(17,[]),(1,[]),(8,[15]),(10,[]),(11,[15]),(18,[]),(19,[]),(20,[]),(21,[])]) (.leaf [(0,[]),(2,[]),(3,[]),(4,[]),(6,[]),(9,[]),(12,[]),(13,[]),(14,[]),(16,[]),(5,[]),(7,[]),(15,[]),(17,[]),(1,[]),(10,[]),(8,[15]),(11,[15]),(18,[]),(19,[]),(20,[]),(21,[])])))]) hk
def ZEE(s b:Int):Int:=
 orI .u32 (ZMa .u32 ((IntKind.u32.wrap (ZBK .u32 s 16+(IntKind.u32.wrap (IntKind.u32.wrap (ZCe .u32 s 65535+IntKind.u32.wrap b)+1)).tmod 65521)).tmod 65521) 16)
  ((IntKind.u32.wrap (IntKind.u32.wrap (ZCe .u32 s 65535+IntKind.u32.wrap b)+1)).tmod 65521)
variable {s:Int}
theorem ZY7(r:Q (ZEE s b) h):cx 321 [Value.int .u32 s,Value.int .u8 b] (cI .u32) h Q:=by refine c321 ?_;exact⟨by decide,by decide,by decide,by decide,r⟩
theorem ZU1(r:Q (ZEE s b) h):cx 268 [Value.int .u32 s,Value.int .u8 b] (cI .u32) h Q:=by refine c268 ?_;exact⟨by decide,by decide,by decide,by decide,r⟩
theorem ZaZ(M:g.sub h)(r:Row cSl g p0 ss)(P:ZEb g ss bss)(hl:ss.length<=9223372036854775807)(V:∀ bs∈bss,bs.length<=9223372036854775807)(X:Q (bss.flatten.foldl ZEE 0) h):cx 272 [Value.slice p0.a p0.len p0.cap] (cI .u32) h Q:=by
 have N:=P.len;refine c272 ?_;refine Zc (λz h'=>∃ i:Nat,z.2=i/\i<=ss.length/\z.1=(bss.take i).flatten.foldl ZEE 0/\h'=h) (λz=>ss.length-z.2.toNat) ⟨0,rfl,Xh _,rfl,rfl⟩ ?_;rintro J ⟨s,n⟩ h' again ⟨i,H,hle,hs,rfl⟩
 dsimp only at H hs;subst H hs;refine ZG (λA=>?_) (λG=>?_)
 .dsimp only at A;rw[r.1]at A;have A:i<ss.length:=by omega
  have H:ss[i]?=some ss[i]:=Xa A;obtain⟨bs,E,rb⟩:=P.get i _ H;refine ZN r (by omega) (by omega) λa R=>ZQ r M rfl R (i:=i) H (by simp) ?_;refine Zc (λz D=>∃ j:Nat,z.2=j/\j<=bs.length/\z.1=(bs.take j).foldl ZEE ((bss.take i).flatten.foldl ZEE 0)/\D=h') (λz=>bs.length-z.2.toNat) ⟨0,rfl,Xh _,rfl,rfl⟩ ?_;rintro Y ⟨s2,n2⟩ D again2 ⟨j,I,hle2,hs2,rfl⟩;dsimp only at I hs2;subst I hs2;have W:=V bs (Xn E);refine ZG (λw=>?_) (λC=>?_)
  .dsimp only at w;rw[rb.1]at w;have w:j<bs.length:=by omega
   have F:bs[j]?=some bs[j]:=Xa w;refine ZN rb (by omega) (by omega) λZ L=>ZQ rb M rfl L (i:=j) F (by simp) ?_;refine ZY7 (again2 _ _ ⟨j+1,?_,by omega,?_,rfl⟩ ?_)
   .dsimp only;exact Z1 (by omega)
   .exact (ZAB ZEE _ bs F).symm
   .dsimp only;rw[Z1 (by omega)];omega
  .dsimp only at C;rw[rb.1]at C;have I:j=bs.length:=by omega
   subst I;refine again _ _ ⟨i+1,?_,by omega,?_,rfl⟩ ?_
   .dsimp only;exact Z1 (by omega)
   .dsimp only;rw[Xo,XH,E,List.flatten_append,WX];simp
   .dsimp only;rw[Z1 (by omega)];omega
 .dsimp only at G;rw[r.1]at G;have:i=bss.length:=by omega
  subst this;rw[Xo];exact X
theorem ZZ6(E:g.sub h)(r:Row (cI .u8) g p0 bs)(hl:bs.length<=9223372036854775807)(F:Q (bs.foldl ZEE 0) h):
 cx 186 [Value.slice p0.a p0.len p0.cap] (cI .u32) h Q:=by
 refine c186 ?_;refine Zc (λz h'=>∃ i:Nat,z.2=i/\i<=bs.length/\z.1=(bs.take i).foldl ZEE 0/\h'=h) (λz=>bs.length-z.2.toNat) ⟨0,rfl,Xh _,rfl,rfl⟩ ?_;rintro J ⟨s,n⟩ h' again ⟨i,C,hle,hs,rfl⟩
 dsimp only at C hs;subst C hs;refine ZG (λw=>?_) (λA=>?_)
 .dsimp only at w;rw[r.1]at w;have w:i<bs.length:=by omega
  have C:bs[i]?=some bs[i]:=Xa w;refine ZN r (by omega) (by omega) λa D=>ZQ r E rfl D (i:=i) C (by simp) ?_;refine ZU1 (again _ _ ⟨i+1,?_,by omega,?_,rfl⟩ ?_)
  .dsimp only;exact Z1 (by omega)
  .exact (ZAB ZEE _ bs C).symm
  .dsimp only;rw[Z1 (by omega)];omega
 .dsimp only at A;rw[r.1]at A;have:i=bs.length:=by omega
  subst this;rw[Xo];exact F
variable {l:List Hp}
theorem Za7{b:Nat}{e:TypeId}{s:Sl}(o:On h l)(i:Nat)(w:l[i]?=some (ob b [Value.slice s.a s.len s.cap] e))(r:Row (cI .u8) h s bs)(hl:bs.length<=9223372036854775807)(A:Q (bs.foldl ZEE 0) h):cx 272 [Value.slice (sj b) 1 1] (cI .u32) h Q:=by
 have C:Row cSl h ⟨sj b,1,1⟩ [s]:=(Zk (cd:=cSl) (xs:=[s]) rfl rfl).sub (o.get w);refine ZaZ (p0:=⟨sj b,1,1⟩) (ss:=[s]) (bss:=[bs]) (Hp.sub_refl h) C ⟨r,trivial⟩ (by simp) (by simpa using hl) ?_;simpa using A
def Lawful(g:Hp)(v:Bool)(h':Hp):Prop:=v=true/\g.sub h'
def toB(x:Int):BitVec 64:=BitVec.ofInt 64 x
theorem ZY3(v:BitVec 64):toB (v.toNat:Int)=v:=by unfold toB;rw[Yj,BitVec.ofNat_toNat,BitVec.setWidth_eq]
theorem ZBb(n:Int):u64.wrap n=n % 18446744073709551616:=by simp[IntKind.wrap,IntKind.signed,IntKind.bits]
theorem ZXY(n:Int):toB (n % 18446744073709551616)=toB n:=by apply BitVec.eq_of_toNat_eq;simp only[toB,YF];congr 1;exact Int.emod_emod_of_dvd n (Int.dvd_refl _)
theorem ZUi(n:Int):toB (u64.wrap n)=toB n:=by rw[ZBb,ZXY]
theorem ZRO(x y:Int):toB (ZQb .u64 x y)=toB x ^^^ toB y:=by show toB (u64.wrap ((BitVec.ofInt 64 x ^^^ BitVec.ofInt 64 y).toNat:Int))=_;rw[ZUi,ZY3];rfl
theorem ZLi(n:Int):0<=u64.wrap n/\u64.wrap n<18446744073709551616:=by rw[ZBb];omega
theorem ZMR(x y:Int):0<=ZQb .u64 x y/\ZQb .u64 x y<18446744073709551616:=ZLi _
theorem ZSb(r:0<=x/\x<18446744073709551616)(w:0<=y/\y<18446744073709551616)(h:toB x=toB y):x=y:=by have:=congrArg BitVec.toNat h;simp only[toB,YF]at this;omega
theorem ZId(n:Int):IntKind.u32.wrap n=n % 4294967296:=by simp[IntKind.wrap,IntKind.signed,IntKind.bits]
theorem Zb0(h:0<=s/\s<4294967296):ZCe .u32 s 65535=s % 65536:=by
 show IntKind.u32.wrap ((BitVec.ofInt 32 s &&& BitVec.ofInt 32 65535).toNat:Int)=_;have e:(BitVec.ofInt 32 s &&& BitVec.ofInt 32 65535).toNat=s.toNat % 65536:=by
  rw[VJ,YF,show (BitVec.ofInt 32 65535).toNat=2 ^ 16-1 from rfl,YP];have:(s % ((2 ^ 32:Nat):Int)).toNat=s.toNat:=by omega
  rw[this]
 rw[e,ZId];omega
theorem Zbj(_h:0<=s):ZBK .u32 s 16=s / 65536:=by show s.fdiv (2 ^ 16)=_;rw[WG _ (by decide)];rfl
theorem Zb8(h:0<=s/\s<65536):ZMa .u32 s 16=s*65536:=by show IntKind.u32.wrap (s*2 ^ 16)=_;rw[ZId];omega
theorem Zci{a:Int}(r:0<=a/\a<65536)(w:0<=b/\b<65536):orI .u32 (a*65536) b=a*65536+b:=by
 show IntKind.u32.wrap ((BitVec.ofInt 32 (a*65536) ||| BitVec.ofInt 32 b).toNat:Int)=_;have e:(BitVec.ofInt 32 (a*65536) ||| BitVec.ofInt 32 b).toNat=65536*a.toNat+b.toNat:=by
  rw[BitVec.toNat_or,YF,YF];have e1:((a*65536) % ((2 ^ 32:Nat):Int)).toNat=2 ^ 16*a.toNat:=by omega
  have e2:(b % ((2 ^ 32:Nat):Int)).toNat=b.toNat:=by omega
  rw[e1,e2,<-Nat.two_pow_add_eq_or_of_lt (by omega)]
 rw[e,ZId];omega
def Low(s lo:Int):Prop:=0<=lo/\lo<65521/\∃ hi:Int,0<=hi/\hi<65521/\s=hi*65536+lo
theorem ZWj(h:Low s lo)(F:0<=b/\b<256):Low (ZEE s b) ((lo+b+1) % 65521):=by
 obtain⟨A,C,r,D,E,rfl⟩:=h;have hl:(IntKind.u32.wrap (IntKind.u32.wrap (ZCe .u32 (r*65536+lo) 65535+IntKind.u32.wrap b)+1)).tmod 65521=(lo+b+1) % 65521:=by rw[Zb0 (by omega),ZId,ZId,ZId,YE (by omega)];omega
 have w:(IntKind.u32.wrap (ZBK .u32 (r*65536+lo) 16+(lo+b+1) % 65521)).tmod 65521=(r+(lo+b+1) % 65521) % 65521:=by rw[Zbj (by omega),ZId,YE (by omega)];omega
 unfold ZEE;rw[hl,w,Zb8 (by omega),Zci (by omega) (by omega)];exact⟨by omega,by omega,_,by omega,by omega,rfl⟩
def Zam(bs:List Int):Int:=bs.foldr (λb n=>b+1+n) 0
theorem ZOt:∀ (bs:List Int) (s lo:Int),Low s lo->(∀ b∈bs,0<=b/\b<256)->Low (bs.foldl ZEE s) ((lo+Zam bs) % 65521)
 | [],s,lo,h,_=>by
   have:(lo+Zam []) % 65521=lo:=by have:=h.1;have:=h.2.1;show (lo+0) % 65521=lo;omega
   rw[this];exact h
 | b::bs,s,lo,h,hb=>by
   have:=ZOt bs _ _ (ZWj h (hb b (by simp))) λx r=>hb x (by simp[r]);have e:(lo+Zam (b::bs)) % 65521=((lo+b+1) % 65521+Zam bs) % 65521:=by show (lo+(b+1+Zam bs)) % 65521=_;omega
   rw[e];exact this
theorem ZWi:Low 0 0:=⟨by omega,by omega,0,by omega,by omega,by omega⟩
def sv(s:Sl):Value:=.slice s.a s.len s.cap
variable {i:Nat}
theorem ZO7(o:On h l)(D:l[i]?=some g)(r:Row (cI .u8) g p0 bs)(hl:bs.length<=1000000){Q:Sl->Hp->Prop}(w:∀ s d h',On h' (d::l)->Own (cI .u8) d s bs->Q s h'):cx 273 [Value.slice p0.a p0.len p0.cap] cSl h Q:=by
 refine c273 ?_;refine ZD (λE=>?_) λ_=>?_
 .have C:p0.a=none:=YG.1 E;have:bs=[]:=by have:=r.2;rw[C]at this;exact this
  subst this;exact w _ Hp.emp h o.emp (Own.nil _)
 .refine ZH o λk1 I A=>?_;have G:Own (cI .u8) (ob k1 [] 5) ⟨sj k1,0,0⟩ []:=ZAx (cd:=cI .u8) (xs:=[]) (rest:=[]) rfl rfl rfl;exact ZW (g:=g) (s:=⟨sj k1,0,0⟩) (t:=p0) A rfl G (by decide) r (A.get (i:=i+1) (by simpa using D)) (by unfold ZAW;simp;omega) λc p M N L F H=>w _ c _ F H
def ZRl:List Hp->List Sl->List (List Int)->Prop
 | [],[],[]=>True
 | d::ds,s::ss,b::q=>Own (cI .u8) d s b/\ZRl ds ss q
 | _,_,_=>False
theorem ZRl.len:∀ {r:List Hp} {ss:List Sl} {q:List (List Int)},ZRl r ss q->ss.length=q.length
 | [],[],[],_=>rfl
 | _::_,_::_,_::_,h=>by simp[ZRl.len h.2]
 | [],_::_,_,h=>h.elim
 | [],[],_::_,h=>h.elim
 | _::_,[],_,h=>h.elim
 | _::_,_::_,[],h=>h.elim
theorem ZRl.push:∀ {r:List Hp} {ss:List Sl} {q:List (List Int)} {d:Hp} {s:Sl} {b:List Int},ZRl r ss q->Own (cI .u8) d s b->ZRl (r++[d]) (ss++[s]) (q++[b])
 | [],[],[],_,_,_,_,h=>⟨h,trivial⟩
 | _::_,_::_,_::_,_,_,_,h,h'=>⟨h.1,ZRl.push h.2 h'⟩
 | [],_::_,_,_,_,_,h,_=>h.elim
 | [],[],_::_,_,_,_,h,_=>h.elim
 | _::_,[],_,_,_,_,h,_=>h.elim
 | _::_,_::_,[],_,_,_,h,_=>h.elim
theorem ZPE(b:Nat)(o:Obj):Hp.one b o b=some o:=by simp[Hp.one]
theorem ZPc(s:ByteArray):ZK8 s s=true:=by simp[ZK8]
variable {s:Sl}{m:Nat}
theorem ZYv{xs:List cd.T}(r:Row cd g s xs)(E:g.sub h)(w:cd.mem=true)(C:s.a=some a){x:cd.T}(F:xs[i]?=some x)(D:i*cd.n=m):h.rds (a.add m) (cd.enc x).cells.toList:=by
 have A:=r.2;rw[C]at A;subst D;have hl:((cd.enc x).cells.toList).length=cd.n:=by simpa using (ZAo w x).1
 exact Hp.sub_rds E (Hp.rds_add A _ (by rw[hl];exact ZFG w xs i x F))
theorem Zd{xs:List cd.T}(r:Row cd g s xs)(F:g.sub h)(w:cd.mem=true)(D:s.a=some a){x:cd.T}(G:xs[i]?=some x)(E:i*cd.n=m){y:cf.T}(H:((cd.enc x).cells.toList.drop k).take (cf.enc y).cells.toList.length=(cf.enc y).cells.toList){K:cf.T->Prop}(C:K y):ZC cf ((a.add m).add k) h K:=by
 refine⟨y,?_,C⟩;have A:=r.2;rw[D]at A;subst E;have hl:((cd.enc x).cells.toList).length=cd.n:=by simpa using (ZAo w x).1
 exact Hp.sub_rds F (Hp.rds_add (Hp.rds_add A _ (by rw[hl];exact ZFG w xs i x G)) _ H)
def ZJZ(n:Int):Int:=if n<0 then -2*n-1 else 2*n
def I64(n:Int):Prop:=-9223372036854775808<=n/\n<=9223372036854775807
theorem ZF3(h:I64 n):0<=ZJZ n/\ZJZ n<18446744073709551616:=by unfold I64 at h;unfold ZJZ;split<;>omega
def grp(z:Nat):List Int:=if z<128 then [(z:Int)] else ((z % 128+128:Nat):Int)::grp (z / 128)
termination_by z
decreasing_by omega
theorem ZGn(h:z<128):grp z=[(z:Int)]:=by unfold grp;rw[Xe h]
theorem ZHX(h:128<=z):grp z=((z % 128+128:Nat):Int)::grp (z / 128):=by rw[grp,Xd (by omega)]
theorem ZRv:∀ (k z:Nat),0<k->z<128 ^ k->(grp z).length<=k
 | 0,_,h,_=>by omega
 | k+1,z,_,h=>by
   by_cases w:z<128
   .rw [ZGn w];simp
   .rw [ZHX (by omega)];have r:0<k:=by
     rcases Vo k with h0|h0
     .subst h0;simp at h;omega
     .exact h0
    have:=ZRv k (z / 128) r (by rw[VL]at h;exact Nat.div_lt_of_lt_mul (by rw[Yv];exact h));simp only[XI];omega
theorem ZUu:∀ (z:Nat),∀ b∈grp z,0<=b/\b<256:=by
 intro z;induction z using Nat.strongRecOn with
 | _ z A=>
   intro b r;by_cases w:z<128
   .rw [ZGn w]at r;rw[Xl]at r;omega
   .rw [ZHX (by omega)]at r;rcases Xm.1 r with rfl|r
    .omega
    .exact A (z / 128) (by omega) b r
theorem ZXH(z:Nat):grp z≠[]:=by
 by_cases r:z<128
 .rw [ZGn r];simp
 .rw [ZHX (by omega)];simp
def ZKq(n:Int):List Int:=grp (ZJZ n).toNat
def ZEx(l:List Int):List Int:=l.flatMap ZKq
theorem ZKA(h:I64 n):(ZKq n).length<=10:=by have:=ZF3 h;exact ZRv 10 _ (by decide) (by omega)
theorem ZBa(n:Int)(l:List Int):ZEx (n::l)=ZKq n++ZEx l:=rfl
theorem ZNC(a b:List Int):ZEx (a++b)=ZEx a++ZEx b:=by simp[ZEx]
theorem ZFm:∀ (l:List Int),(∀ n∈l,I64 n)->(ZEx l).length<=10*l.length
 | [],_=>by simp[ZEx]
 | n::l,h=>by have w:=ZKA (h n (by simp));have A:=ZFm l λx r=>h x (by simp[r]);rw[ZBa,Xg,XI];omega
theorem ZUT(l:List Int):∀ b∈ZEx l,0<=b/\b<256:=by intro b r;obtain⟨n,_,r⟩:=List.mem_flatMap.1 r;exact ZUu _ b r
theorem ZLM{l:List Int}(r:l[i]?=some x):ZEx (l.take (i+1))=ZEx (l.take i)++ZKq x:=by
 have:l.take (i+1)=l.take i++[x]:=by rw[XH,r];rfl
 rw[this,ZNC];simp[ZEx]
theorem ZII(n:Int):u8.wrap n=n % 256:=by simp[IntKind.wrap,IntKind.signed,IntKind.bits]
set_option maxRecDepth 10000 in
theorem or8(z:Nat):orI .u8 (u8.wrap (z:Int)) 128=((z % 128+128:Nat):Int):=by
 show u8.wrap ((BitVec.ofInt 8 (u8.wrap (z:Int)) ||| BitVec.ofInt 8 128).toNat:Int)=_;have key:∀ x:Fin 256,((BitVec.ofNat 8 x.val ||| 128#8).toNat:Nat)=x.val % 128+128:=by decide
 have e:BitVec.ofInt 8 (u8.wrap (z:Int))=BitVec.ofNat 8 (z % 256):=by rw[ZII,show ((z:Int) % 256)=((z % 256:Nat):Int) by omega,Yj]
 rw[e,show BitVec.ofInt 8 128=128#8 from rfl,key ⟨z % 256,by omega⟩,ZII];dsimp only;omega
theorem ZcZ(z:Nat):ZBK .u64 (z:Int) 7=((z / 128:Nat):Int):=by show (z:Int).fdiv (2 ^ 7)=_;rw[WG _ (by decide)];omega
theorem ZPj(h:0<=x/\x<18446744073709551616):ZQb .u64 x 0=x:=by apply ZSb (ZMR _ _) h;rw[ZRO,show toB 0=0#64 from rfl,BitVec.xor_zero]
theorem ZQd(h:0<=x/\x<18446744073709551616):ZQb .u64 x 18446744073709551615=18446744073709551615-x:=by apply ZSb (ZMR _ _) (by omega);rw[ZRO,show toB 18446744073709551615=BitVec.allOnes 64 by decide,BitVec.xor_allOnes];apply BitVec.eq_of_toNat_eq;rw[BitVec.toNat_not];simp only[toB,YF];omega
theorem ZSc(h:I64 n):ZQb .u64 (ZMa .u64 (u64.wrap n) 1) (u64.wrap (ZBK .i64 n 63))=ZJZ n:=by
 unfold I64 at h;have e1:ZMa .u64 (u64.wrap n) 1=(2*n) % 18446744073709551616:=by show u64.wrap (u64.wrap n*2 ^ 1)=_;rw[ZBb,ZBb];omega
 have e2:ZBK .i64 n 63=if n<0 then -1 else 0:=by show n.fdiv (2 ^ 63)=_;rw[WG _ (by decide)];split<;>omega
 rw[e1,e2];unfold ZJZ;split
 .rw [show u64.wrap (-1)=18446744073709551615 by decide,ZQd (by omega)];omega
 .rw [show u64.wrap 0=0 by decide,ZPj (by omega)];omega
theorem ZZC(h:I64 n)(r:n<0):u64.wrap (u64.wrap (2*u64.wrap (i64.wrap (0-i64.wrap (n+1))))+1)=ZJZ n:=by unfold I64 at h;rw[w64 (n:=n+1) (by omega) (by omega),w64 (by omega) (by omega),ZBb,ZBb,ZBb];unfold ZJZ;rw[Xe r];omega
theorem ZZb(h:I64 n)(r:¬n<0):u64.wrap (2*u64.wrap n)=ZJZ n:=by unfold I64 at h;rw[ZBb,ZBb];unfold ZJZ;rw[Xd r];omega
theorem ZKr(h:(Lit.int .i64 n).wf=true):I64 n:=by simp[Lit.wf,IntKind.min,IntKind.max,IntKind.signed,IntKind.bits]at h;unfold I64;omega
def ZBG:Nat->Nat->List Int->Option (Nat×Nat)
 | _,_,[]=>none
 | i,z,c::l=>if 10<=i then none else if 128<=c then ZBG (i+1) (z+(c.toNat % 128)*128 ^ i) l
    else if (c=0/\0<i)\/(i=9/\1<c) then none else some (z+c.toNat*128 ^ i,i+1)
def ZPR(z:Nat):Int:=if z % 2=1 then -((z / 2:Nat):Int)-1 else ((z / 2:Nat):Int)
def ZAZ(bs:List Int):Option (Int×Nat):=(ZBG 0 0 bs).map λx=>(ZPR x.1,x.2)
def ZAD(bs:List Int):Prop:=∀ b∈bs,0<=b/\b<256
theorem ZAD.drop(h:ZAD bs)(k:Nat):ZAD (bs.drop k):=λb r=>h b (YJ r)
theorem ZYT:ZPR (ZJZ n).toNat=n:=by unfold ZPR ZJZ;split<;>split<;>omega
theorem ZYa(z:Nat):(ZJZ (ZPR z)).toNat=z:=by unfold ZPR ZJZ;split<;>split<;>omega
theorem ZYb(h:z<18446744073709551616):I64 (ZPR z):=by unfold ZPR I64;split<;>omega
theorem ZVA(z:Nat):ZKq (ZPR z)=grp z:=by unfold ZKq;rw[ZYa]
theorem ZPy:∀ (m i z:Nat) (rest:List Int),i<=9->m*128 ^ i<18446744073709551616->(i=0\/0<m)->ZBG i z (grp m++rest)=some (z+m*128 ^ i,i+(grp m).length):=by
 intro m;induction m using Nat.strongRecOn with
 | _ m G=>
   intro i z rest L w H;by_cases F:m<128
   ·rw[ZGn F];show ZBG i z ((m:Int)::rest)=_;unfold ZBG;rw[Xd (by omega),Xd (by omega),Xd ?_]
    .simp
    .rintro (⟨I,D⟩|⟨rfl,D⟩)
     .omega
     .have:(128:Nat) ^ 9=9223372036854775808:=by decide
      rw[this]at w;omega
   ·rw[ZHX (by omega)];show ZBG i z (((m % 128+128:Nat):Int)::(grp (m / 128)++rest))=_;unfold ZBG;have E:i<9:=by
     rcases WB i 9 with h|h
     .exact h
     .have:i=9:=by omega
      subst this;have:(128:Nat) ^ 9=9223372036854775808:=by decide
      rw[this]at w;omega
    have C:(128:Nat) ^ (i+1)=128*128 ^ i:=by rw[VL,Yv]
    have r:m / 128*128<=m:=Nat.div_mul_le_self m 128;have A:m / 128*128 ^ (i+1)<=m*128 ^ i:=by rw[C,<-Vh];exact Xr _ r
    rw[Xd (by omega),Xe (by omega)];rw[G (m / 128) (by omega) (i+1) _ rest (by omega) (by omega) (.inr (by omega))];have e1:(((m % 128+128:Nat):Int).toNat % 128)=m % 128:=by omega
    rw[e1,C];congr 2
    .rw [Vi];congr 1;rw[<-Vh,<-Wx];congr 1;omega
    .simp only[XI];omega
theorem ZEp(h:I64 n)(rest:List Int):ZAZ (ZKq n++rest)=some (n,(ZKq n).length):=by have r:=ZF3 h;unfold ZAZ ZKq;rw[ZPy _ 0 0 rest (by omega) (by omega) (.inl rfl)];simp only[WD];rw[show 0+(ZJZ n).toNat*128 ^ 0=(ZJZ n).toNat by simp,ZYT,Vp]
theorem ZLF(i:Nat)(h:i<=9):128 ^ i=1\/128 ^ i=128\/128 ^ i=16384\/128 ^ i=2097152\/128 ^ i=268435456\/128 ^ i=34359738368\/128 ^ i=4398046511104\/128 ^ i=562949953421312\/128 ^ i=72057594037927936\/(i=9/\128 ^ i=9223372036854775808):=by
 have:i=0\/i=1\/i=2\/i=3\/i=4\/i=5\/i=6\/i=7\/i=8\/i=9:=by omega
 rcases this with rfl|rfl|rfl|rfl|rfl|rfl|rfl|rfl|rfl|rfl<;>decide
variable {d:Nat}
theorem Zbr(G:i<=8)(A:m*128 ^ (i+1)<18446744073709551616)(F:d<128):(d+128*m)*128 ^ i<18446744073709551616:=by
 have D:128 ^ (i+1) ∣ 18446744073709551616:=by rw[show (128:Nat)=2 ^ 7 by decide,<-Nat.pow_mul,show 18446744073709551616=2 ^ 64 by decide];exact Nat.pow_dvd_pow 2 (by omega)
 obtain⟨q,C⟩:=D;have E:(128:Nat) ^ (i+1)=128*128 ^ i:=by rw[VL,Yv]
 have r:0<128 ^ i:=Nat.pow_pos (by decide);rw[C,Yv]at A;have w:m<q:=Nat.lt_of_mul_lt_mul_left A;rw[C,E]
 calc (d+128*m)*128 ^ i<(128*(m+1))*128 ^ i:=Nat.mul_lt_mul_of_pos_right (by omega) r
  _=128*128 ^ i*(m+1):=by rw[Vh,Vh,Yv (m+1)]
  _<=128*128 ^ i*q:=Vt _ w
theorem ZQh:∀ (bs:List Int) (i z y k:Nat),ZAD bs->ZBG i z bs=some (y,k)->
 i<=9/\∃ m,y=z+m*128 ^ i/\bs.take (k-i)=grp m/\k=i+(grp m).length/\m*128 ^ i<18446744073709551616/\(i=0\/0<m):=by
 intro bs;induction bs with
 | nil=>intro i z y k _ h;cases h
 | cons c l I=>
   intro i z y k C h;have Z:=C c (by simp);unfold ZBG at h;split at h
   .cases h
   ·rename_i M;split at h
    .rename_i r;obtain⟨hi,m,X,W,N,P,H⟩:=I (i+1) _ y k (λb D=>C b (by simp[D])) h;have R:0<m:=by omega
     have V:(128:Nat) ^ (i+1)=128*128 ^ i:=by rw[VL,Yv]
     have F:c.toNat % 128+128=c.toNat:=by omega
     have G:grp (c.toNat % 128+128*m)=c::grp m:=by rw[ZHX (by omega)];rw[show (c.toNat % 128+128*m) / 128=m by omega,show (c.toNat % 128+128*m) % 128=c.toNat % 128 by omega,F];congr 1;omega
     refine⟨by omega,c.toNat % 128+128*m,?_,?_,?_,?_,.inr (by omega)⟩
     .rw [X,V,Wx,<-Vh,Yv m 128,Vi]
     .rw [G,show k-i=(k-(i+1))+1 by omega,Vu,W]
     .rw [G,N];simp;omega
     .exact Zbr (by omega) P (by omega)
    ·rename_i r;split at h
     .cases h
     .rename_i w;simp only[XT,Prod.mk.injEq]at h;obtain⟨rfl,rfl⟩:=h;have A:c.toNat<128:=by omega
      refine⟨by omega,c.toNat,rfl,?_,?_,?_,?_⟩
      .rw [ZGn A,show i+1-i=1 by omega];simp;omega
      .rw [ZGn A];rfl
      .rcases ZLF i (by omega)with e|e|e|e|e|e|e|e|e|⟨Y,e⟩;all_goals (simp only[e];clear I C;omega)
      .by_cases L:i=0
       .exact .inl L
       .right;have:c≠0:=λE=>w (.inl ⟨E,by omega⟩);omega
theorem ZCK(E:ZAD bs)(h:ZAZ bs=some (v,k)):I64 v/\bs.take k=ZKq v/\k=(ZKq v).length/\k<=bs.length/\0<k:=by
 unfold ZAZ at h;rw[YS]at h;obtain⟨⟨y,I⟩,h1,h2⟩:=h;simp only[Prod.mk.injEq]at h2;obtain⟨rfl,rfl⟩:=h2;obtain⟨_,m,H,w,C,F,_⟩:=ZQh bs 0 0 y I E h1;have A:y=m:=by simpa using H
 subst A;rw[Yz]at w;rw[Vp]at C;have r:=congrArg List.length w;rw[Xk]at r;have G:(grp y).length≠0:=λD=>ZXH y (WJ.1 D);rw[ZVA];exact⟨ZYb (by simpa using F),w,C,by omega,by omega⟩
def ZMY:Nat->List Int->Option (List Int)
 | 0,[]=>some []
 | 0,_::_=>none
 | n+1,bs=>match ZAZ bs with
   | none=>none
   | some (v,k)=>(ZMY n (bs.drop k)).map (v::·)
def ZLl(bs:List Int)(n:Int):Option (List Int):=if n<0 then none else ZMY n.toNat bs
theorem ZE8{n:Nat}(h:ZAZ bs=none):ZMY (n+1) bs=none:=by unfold ZMY;rw[h]
theorem ZBf{n:Nat}(h:ZAZ bs=some (v,k)):ZMY (n+1) bs=(ZMY n (bs.drop k)).map (v::·):=by
 conv=>lhs;unfold ZMY
 rw[h]
theorem ZO5:∀ (l:List Int) (rest:List Int),(∀ n∈l,I64 n)->ZMY l.length (ZEx l)=some l
 | [],_,_=>rfl
 | n::l,rest,h=>by have r:=ZEp (h n (by simp)) (ZEx l);rw[<-ZBa]at r;rw[XI,ZBf r,ZBa,XF (Xc _),XY,XV,ZO5 l rest λx w=>h x (by simp[w])];rfl
theorem ZJo:∀ (n:Nat) (bs l:List Int),ZAD bs->ZMY n bs=some l->l.length=n/\bs=ZEx l/\∀ x∈l,I64 x
 | 0,[],l,_,h=>by simp only[ZMY,XT]at h;subst h;exact⟨rfl,rfl,λx r=>by cases r⟩
 | 0,_::_,l,_,h=>by cases h
 | n+1,bs,l,hb,h=>by
   unfold ZMY at h;split at h
   .cases h
   .rename_i v k D;rw[YS]at h;obtain⟨l',C,rfl⟩:=h;obtain⟨w,A,a3⟩:=ZJo n _ l' (hb.drop k) C;obtain⟨b1,b2,E,F,G⟩:=ZCK hb D;refine⟨by simp[w],?_,λx r=>?_⟩
    .rw [ZBa,<-A,<-b2,XO]
    .rcases Xm.1 r with rfl|r
     .exact b1
     .exact a3 x r
theorem ZP6(r:I64 n)(w:Q (ZJZ n) h):cx 350 [vi n] (cI .u64) h Q:=by refine c350 ?_;refine⟨by decide,by decide,?_⟩;rw[ZSc r];exact w
theorem ZaX(w:I64 n)(A:Q (ZJZ n) h):cx 320 [vi n] (cI .u64) h Q:=by
 refine c320 ?_;refine ZG (λr=>?_) λr=>?_
 .rw [ZZC w r];exact A
 .rw [ZZb w r];exact A
variable {Q:Sl->Hp->Prop}
theorem ZSv(o:On h l)(hg:g∈l)(r:Row ci g p0 ns)(V:∀ n∈ns,I64 n)(hl:ns.length<=1000000)(hq:∀ s d h',On h' (d::l)->Own (cI .u8) d s (ZEx ns)->Q s h'):cx 315 [Value.slice p0.a p0.len p0.cap] cSl h Q:=by
 refine c315 ?_;refine Zc (λz h'=>∃ (i:Nat) (d:Hp),z.2=i/\i<=ns.length/\On h' (d::l)/\Own (cI .u8) d z.1 (ZEx (ns.take i))) (λz=>ns.length-z.2.toNat) ⟨0,Hp.emp,rfl,Xh _,o.emp,Own.nil _⟩ ?_;rintro J ⟨s,z⟩ h' again ⟨i,d,F,hle,o',w⟩
 dsimp only at F w;subst F;refine ZG (λD=>?_) λC=>?_
 .dsimp only at D;rw[r.1]at D;have D:i<ns.length:=by omega
  have F:ns[i]?=some ns[i]:=Xa D;refine ZN r (by omega) (by omega) λa Z=>ZQ r (o'.mem (by simp[hg])) rfl Z (i:=i) F (by simp) ?_;have H:=V _ (Xn F);have hzr:=ZF3 H;refine ZP6 H ?_;have Y:=ZLM F;have L:=ZFm (ns.take (i+1)) λn M=>V n (WN M);rw[Xk]at L;refine Zc (λz R=>∃ (A:Nat) (d:Hp) (pre:List Int),z.2=A/\A<18446744073709551616/\On R (d::l)/\Own (cI .u8) d z.1 pre/\pre++grp A=ZEx (ns.take (i+1))) (λz=>z.2.toNat)
   ⟨(ZJZ ns[i]).toNat,d,_,by dsimp only;omega,by omega,o',w,Y.symm⟩ ?_
  rintro J2 ⟨s2,z2⟩ R again2 ⟨A,d2,pre,hz,hzl,o2,w2,hpre⟩;dsimp only at hz w2;subst hz;have hpl:pre.length<=10000000:=by have:=congrArg List.length hpre;rw[Xg]at this;omega
  refine ZG (λC=>?_) λG=>?_
  .dsimp only at C;refine ZH o2 λk1 W E=>?_;have rb:Row (cI .u8) (ob k1 [Value.int .u8 ((A % 128+128:Nat):Int)] 5) ⟨sj k1,1,1⟩ [((A % 128+128:Nat):Int)]:=Zk rfl rfl;dsimp only at E;rw[or8]at E;refine ZW (s:=s2) (t:=⟨sj k1,1,1⟩) E.swap rfl w2 (by decide) rb (E.get (i:=0) rfl) (by unfold ZAW;simp;omega) λI p4 n4 m4 X N P=>?_;refine⟨by decide,?_⟩;have e:=ZcZ A;refine again2 _ _ ⟨A / 128,I,_,e,by omega,N.sublist (by simp),P,?_⟩ ?_
   .rw [<-hpre,ZHX (z:=A) (by omega)];simp
   .dsimp only;rw[e];omega
  .dsimp only at G;refine ZH o2 λk1 W E=>?_;have rb:Row (cI .u8) (ob k1 [Value.int .u8 (A:Int)] 5) ⟨sj k1,1,1⟩ [(A:Int)]:=Zk rfl rfl;dsimp only at E;rw[ZII,show (A:Int) % 256=A by omega]at E;refine ZW (s:=s2) (t:=⟨sj k1,1,1⟩) E.swap rfl w2 (by decide) rb (E.get (i:=0) rfl) (by unfold ZAW;simp;omega) λI p4 n4 m4 X N P=>?_;refine again _ _ ⟨i+1,I,Z1 (by omega),by omega,N.sublist (by simp),?_⟩ (by dsimp only;rw[Z1 (by omega)];omega);rw[<-hpre,ZGn (z:=A) (by omega)];exact P
 .dsimp only at C;rw[r.1]at C;have:i=ns.length:=by omega
  subst this;rw[Xo]at w;exact hq _ _ _ o' w
theorem ZZH(o:On h l)(E:I64 n)(P:∀ s d h',On h' (d::l)->Own (cI .u8) d s (ZKq n)->Q s h'):cx 269 [vi n] cSl h Q:=by
 have R:=ZF3 E;have I:=ZKA E;refine c269 ?_;refine ZaX E ?_;refine Zc (λz H=>∃ (r:Nat) (d:Hp) (pre:List Int),z.1=r/\r<18446744073709551616/\On H (d::l)/\Own (cI .u8) d z.2 pre/\pre++grp r=ZKq n) (λz=>z.1.toNat)
  ⟨(ZJZ n).toNat,Hp.emp,[],by dsimp only;omega,by omega,o.emp,Own.nil _,rfl⟩ ?_
 rintro Y ⟨Z,s2⟩ H again2 ⟨r,d2,pre,hz,hzl,o2,w2,hpre⟩;dsimp only at hz w2;subst hz;have N:pre.length<=10:=by have:=congrArg List.length hpre;rw[Xg]at this;omega
 refine ZG (λD=>?_) λA=>?_
 .dsimp only at D;refine⟨by decide,ZH o2 λk1 L w=>?_⟩;have rb:Row (cI .u8) (ob k1 [Value.int .u8 ((r % 128+128:Nat):Int)] 5) ⟨sj k1,1,1⟩ [((r % 128+128:Nat):Int)]:=Zk rfl rfl;dsimp only at w;rw[show u8.wrap (u64.wrap ((r:Int).tmod 128+128))=((r % 128+128:Nat):Int) by rw[ZII,ZBb,YE (by omega)];omega]at w;refine ZW (s:=s2) (t:=⟨sj k1,1,1⟩) w.swap rfl w2 (by decide) rb (w.get (i:=0) rfl) (by unfold ZAW;simp;omega) λC X W V M F G=>?_;refine⟨by decide,?_⟩;have e:ZY1 .u64 (r:Int) 128=((r / 128:Nat):Int):=by show u64.wrap ((r:Int).tdiv 128)=_;rw[Int.tdiv_eq_ediv_of_nonneg (by omega),ZBb];omega
  refine again2 _ _ ⟨r / 128,C,_,e,by omega,F.sublist (by simp),G,?_⟩ ?_
  .rw [<-hpre,ZHX (z:=r) (by omega)];simp
  .dsimp only;rw[e];omega
 .dsimp only at A;refine ZH o2 λk1 L w=>?_;have rb:Row (cI .u8) (ob k1 [Value.int .u8 (r:Int)] 5) ⟨sj k1,1,1⟩ [(r:Int)]:=Zk rfl rfl;dsimp only at w;rw[ZII,show (r:Int) % 256=r by omega]at w;refine ZW (s:=s2) (t:=⟨sj k1,1,1⟩) w.swap rfl w2 (by decide) rb (w.get (i:=0) rfl) (by unfold ZAW;simp;omega) λC X W V M F G=>?_;refine P _ C _ (F.sublist (by simp)) ?_;rw[<-hpre,ZGn (z:=r) (by omega)];exact G
theorem ZVy(o:On h l)(R:g∈l)(r:Row ci g p0 ns)(H:∀ n∈ns,I64 n)(hl:ns.length<=1000000)(V:∀ s d h',On h' (d::l)->Own (cI .u8) d s (ZEx ns)->Q s h'):cx 187 [Value.slice p0.a p0.len p0.cap] cSl h Q:=by
 refine c187 ?_;refine ZH o λk1 h1 W=>?_;refine Zc (λz h'=>∃ (i:Nat) (d:Hp),z.2=i/\i<=ns.length/\On h' (d::l)/\Own (cI .u8) d z.1 (ZEx (ns.take i))) (λz=>ns.length-z.2.toNat) ⟨0,_,rfl,Xh _,W,ZAx (cd:=cI .u8) (xs:=[]) (rest:=[]) rfl rfl rfl⟩ ?_;rintro J ⟨s,z⟩ h' again ⟨i,d,C,hle,o',w⟩
 dsimp only at C w;subst C;refine ZG (λA=>?_) λD=>?_
 .dsimp only at A;rw[r.1]at A;have A:i<ns.length:=by omega
  have C:ns[i]?=some ns[i]:=Xa A;refine ZN r (by omega) (by omega) λa P=>ZQ r (o'.mem (by simp[R])) rfl P (i:=i) C (by simp) ?_;have E:=H _ (Xn C);have N:=ZLM C;have F:=ZFm (ns.take i) λn G=>H n (WN G);rw[Xk]at F;have M:=ZKA E;refine ZZH o' E λs3 d3 h3 I Y=>?_;refine ZW (s:=s) (t:=s3) I.swap rfl w (by decide) Y.row (I.get (i:=0) rfl) (by unfold ZAW;omega) λL p4 n4 m4 h4 X Z=>?_;refine again _ _ ⟨i+1,L,Z1 (by omega),by omega,X.sublist (by simp),?_⟩ (by dsimp only;rw[Z1 (by omega)];omega);rw[N];exact Z
 .dsimp only at D;rw[r.1]at D;have:i=ns.length:=by omega
  subst this;rw[Xo]at w;exact V _ _ _ o' w
theorem Zbu(i:Nat):(2:Nat) ^ (7*i)=128 ^ i:=by rw[Nat.pow_mul]
theorem ZXL(C:i<=9)(r:z<128 ^ i)(A:d*128 ^ i<18446744073709551616):orI .u64 (z:Int) (ZMa .u64 ((d:Nat):Int) ((7*i:Nat):Int))=((z+d*128 ^ i:Nat):Int):=by
 have e1:ZMa .u64 ((d:Nat):Int) ((7*i:Nat):Int)=((d*128 ^ i:Nat):Int):=by
  show u64.wrap ((d:Int)*2 ^ (min ((7*i:Nat):Int).toNat 64))=_;rw[show min ((7*i:Nat):Int).toNat 64=7*i by omega,ZBb];have:(d:Int)*2 ^ (7*i)=((d*128 ^ i:Nat):Int):=by rw[<-Zbu];simp
  rw[this];omega
 rw[e1];show u64.wrap ((BitVec.ofInt 64 (z:Int) ||| BitVec.ofInt 64 ((d*128 ^ i:Nat):Int)).toNat:Int)=_;have w:z<18446744073709551616:=by rcases ZLF i C with e|e|e|e|e|e|e|e|e|⟨_,e⟩<;>(simp only[e]at r;omega)
 have e2:(BitVec.ofInt 64 (z:Int) ||| BitVec.ofInt 64 ((d*128 ^ i:Nat):Int)).toNat=z+d*128 ^ i:=by rw[BitVec.toNat_or,Yj,Yj,YU,YU,YO w,YO A,<-Zbu,Nat.or_comm,Yv d];rw[<-Nat.two_pow_add_eq_or_of_lt (by rw[Zbu];exact r)];omega
 rw[e2,ZBb];have D:z+d*128 ^ i<18446744073709551616:=by rcases ZLF i C with e|e|e|e|e|e|e|e|e|⟨_,e⟩<;>(simp only[e]at r A⊢;omega)
 omega
theorem ZZY(h:0<=c/\c<256):u64.wrap (c.tmod 128)=((c.toNat % 128:Nat):Int):=by rw[YE h.1,ZBb];omega
theorem ZYX(h:z<18446744073709551616):ZQb .i64 (i64.wrap (ZBK .u64 (z:Int) 1)) (i64.wrap (0-i64.wrap (ZCe .u64 (z:Int) 1)))=ZPR z:=by
 have e1:ZBK .u64 (z:Int) 1=((z / 2:Nat):Int):=by show (z:Int).fdiv (2 ^ 1)=_;rw[WG _ (by decide)];omega
 have e2:ZCe .u64 (z:Int) 1=((z % 2:Nat):Int):=by show u64.wrap ((BitVec.ofInt 64 (z:Int) &&& BitVec.ofInt 64 1).toNat:Int)=_;rw[VJ,Yj,YU,show (BitVec.ofInt 64 1).toNat=2 ^ 1-1 from rfl,YP,YO h,ZBb];omega
 rw[e1,e2,w64 (n:=((z / 2:Nat):Int)) (by omega) (by omega),w64 (n:=((z % 2:Nat):Int)) (by omega) (by omega),w64 (by omega) (by omega)];show i64.wrap ((BitVec.ofInt 64 ((z / 2:Nat):Int) ^^^ BitVec.ofInt 64 (0-((z % 2:Nat):Int))).toNat:Int)=_;unfold ZPR;by_cases r:z % 2=1
 .rw [Xe r,r,show (0-((1:Nat):Int))=-1 by omega,show BitVec.ofInt 64 (-1)=BitVec.allOnes 64 by decide,BitVec.xor_allOnes,BitVec.toNat_not,Yj,YU,IntKind.wrap_i64];omega
 .rw [Xd r,show z % 2=0 by omega,show (0-((0:Nat):Int))=0 by omega,show BitVec.ofInt 64 0=0#64 by decide,BitVec.xor_zero,Yj,YU,w64 (by omega) (by omega)];omega
theorem ZXu{Q:Int->Hp->Prop}(w:z<18446744073709551616)(r:Q (ZPR z) h):cx 322 [Value.int .u64 (z:Int)] ci h Q:=by refine c322 ?_;refine⟨by decide,?_⟩;rw[ZYX w];exact r
def ZK0(bs:List Int):Int×Int×Bool:=
 match ZAZ bs with
 | none=>(0,0,false)
 | some (v,k)=>(v,(k:Int),true)
theorem ZDv(h:ZAZ bs=none):ZK0 bs=(0,0,false):=by unfold ZK0;rw[h]
theorem ZFH(h:ZAZ bs=some (v,k)):ZK0 bs=(v,(k:Int),true):=by unfold ZK0;rw[h]
variable {l:List Int}
theorem ZPV(r:c<128)(w:(c=0/\0<i)\/(i=9/\1<c)):ZBG i z (c::l)=none:=by
 unfold ZBG;split
 .rfl
 .have e1:¬(128:Int)<=c:=by omega
  simp only[Xd e1]
theorem ZPf(w:i<=9)(A:c<128)(r:¬((c=0/\0<i)\/(i=9/\1<c))):ZBG i z (c::l)=some (z+c.toNat*128 ^ i,i+1):=by unfold ZBG;rw[Xd (by omega),Xd (by omega),Xd r]
theorem ZNT(w:i<=9)(r:128<=c):ZBG i z (c::l)=ZBG (i+1) (z+(c.toNat % 128)*128 ^ i) l:=by
 conv=>lhs;unfold ZBG
 rw[Xd (by omega),Xe r]
theorem ZQO(z:Nat)(l:List Int):ZBG 10 z l=none:=by
 cases l with
 | nil=>rfl
 | cons c l=>unfold ZBG;rw[Xe (by omega)]
theorem ZHk(h:ZBG 0 0 bs=ZBG i z (bs.drop i))(r:ZBG i z (bs.drop i)=o):ZAZ bs=o.map λx=>(ZPR x.1,x.2):=by unfold ZAZ;rw[h,r]
theorem Zcf(D:i<=8)(w:z<128 ^ i)(C:d<128):z+d*128 ^ i<128 ^ (i+1)/\d*128 ^ i<18446744073709551616:=by
 have r:(128:Nat) ^ (i+1)=128*128 ^ i:=by rw[VL,Yv]
 rw[r];rcases ZLF i (by omega)with e|e|e|e|e|e|e|e|e|⟨A,e⟩;all_goals (simp only[e]at w⊢;omega)
theorem ZcO(C:i<=9)(r:z<128 ^ i)(D:d<128)(A:i=9->d<=1):d*128 ^ i<18446744073709551616/\z+d*128 ^ i<18446744073709551616:=by rcases ZLF i C with e|e|e|e|e|e|e|e|e|⟨w,e⟩;all_goals (first|(simp only[e]at r⊢;have:=A w;omega)|(simp only[e]at r⊢;omega))
theorem ZOr(hg:g.sub h)(r:Row (cI .u8) g p0 bs)(hb:ZAD bs)(L:bs.length<=p0.cap)(hl:bs.length<=1000000){Q:Int×Int×Bool->Hp->Prop}(F:Q (ZK0 bs) h):
 cx 274 [Value.slice p0.a p0.len p0.cap] (ZV [ci,ci,cB]) h Q:=by
 refine c274 ?_;have R:=r.1;obtain⟨m,hm⟩:∃ m:Nat,m=min bs.length 10:=⟨_,rfl⟩
 have W:ZGd (p0.len:Int) 10=(m:Int):=by unfold ZGd;rw[R,hm];split<;>omega
 rw[W];refine⟨by omega,by omega,?_⟩;rw[show ((m:Int).toNat)=m by omega];have r1:=r.cut (k:=0) (m:=m) (cap':=0) (by omega) (by omega) L rfl (z:=1) rfl;refine Zc (λz h'=>∃ i zn:Nat,z.2=i/\i<=m/\h'=h/\ZBG 0 0 bs=ZBG i zn (bs.drop i)/\(i<=9->z.1=zn/\zn<128 ^ i)) (λz=>m-z.2.toNat) ⟨0,0,rfl,Xh _,rfl,rfl,λ_=>⟨rfl,by decide⟩⟩ ?_;rintro J ⟨x,z⟩ h' again ⟨i,zn,hz,hle,rfl,hf,hx⟩
 dsimp only at hz hx;subst hz;refine ZG (λC=>?_) λab=>?_
 ·have V:i<m:=by dsimp only at C;omega
  clear C;have C:=V;obtain⟨rfl,D⟩:=hx (by omega);have P:i<bs.length:=by omega
  have hi:bs[i]?=some bs[i]:=Xa P;have N:((bs.drop 0).take (m-0))[i]?=some bs[i]:=by rw[VY,Yz,Yw C];exact hi
  have ZFq:bs.drop i=bs[i]::bs.drop (i+1):=XZ P;have hc:=hb _ (Xn hi);refine ZN r1 (Xb i) (by simp;omega) λa ha=>ZQ r1 hg rfl ha (i:=i) N (by simp) ?_;generalize bs[i]=c at hi N ZFq hc;have e7:i64.wrap (7*(i:Int))=((7*i:Nat):Int):=by rw[w64 (by omega) (by omega)];omega
  dsimp only;rw[e7,ZZY hc];refine⟨by decide,by omega,?_⟩;refine ZG (λH=>?_) λH=>?_
  .have ZFh:=ZNT (z:=zn) (l:=bs.drop (i+1)) (show i<=9 by omega) H;refine again _ _ ⟨i+1,zn+(c.toNat % 128)*128 ^ i,Z1 (by omega),by omega,rfl,by rw[hf,ZFq,ZFh],λh9=>?_⟩ (by dsimp only;rw[Z1 (by omega)];omega);obtain⟨z1,z2⟩:=Zcf (i:=i) (d:=c.toNat % 128) (by omega) D (by omega);dsimp only;exact⟨ZXL (by omega) D z2,z1⟩
  ·have I:c<128:=by omega
   have X:c.toNat % 128=c.toNat:=by omega
   rw[X];refine ZI (λt h2=>h2=h'/\t=decide ((c=0/\0<i)\/(i=9/\1<c))) ?_ λJ2 w=>?_
   .rintro t h2 ⟨rfl,rfl⟩;refine ZG (λA=>?_) λA=>?_
    .have Y:ZAZ bs=none:=ZHk (o:=none) hf (by rw[ZFq];exact ZPV I A);rw[ZDv Y]at F;exact F
    .have Y:ZAZ bs=some (ZPR (zn+c.toNat*128 ^ i),i+1):=ZHk (o:=some (zn+c.toNat*128 ^ i,i+1)) hf (by rw[ZFq];exact ZPf (by omega) I A);rw[ZFH Y]at F;obtain⟨z1,z2⟩:=ZcO (i:=i) (z:=zn) (d:=c.toNat) (by omega) D (by omega) (λh9=>by omega);rw[ZXL (by omega) D z1];refine ZXu z2 ?_;rw[Z1 (by omega)];exact F
   .have M:∀ t:Bool,(t=true↔((c=0/\0<i)\/(i=9/\1<c)))->t=decide ((c=0/\0<i)\/(i=9/\1<c)):=by intro t ht;rw[XA,ht,Vx]
    refine ZD (λG=>?_) λG=>?_
    .have G:c=0:=by simpa using G
     refine ZG (λe1=>w _ _ ⟨rfl,M _ (by simp;omega)⟩) λe1=>?_;refine ZD (λe2=>w _ _ ⟨rfl,M _ ?_⟩) λe2=>w _ _ ⟨rfl,M _ ?_⟩
     .simp only[WS]at e2;simp;omega
     .simp only[Wy]at e2;simp;omega
    .have G:c≠0:=by simpa using G
     refine ZD (λe2=>w _ _ ⟨rfl,M _ ?_⟩) λe2=>w _ _ ⟨rfl,M _ ?_⟩
     .simp only[WS]at e2;simp;omega
     .simp only[Wy]at e2;simp;omega
 .have him:i=m:=by dsimp only at ab;omega
  have E:ZBG i zn (bs.drop i)=none:=by
   by_cases Z:i=10
   .rw [Z];exact ZQO _ _
   .rw [YT (by omega)];rfl
  have Y:ZAZ bs=none:=ZHk (o:=none) hf E;rw[ZDv Y]at F;exact F
theorem ZMv(s:ByteArray)(b:UInt8):(s.push b).data.toList=s.data.toList++[b]:=by simp[ByteArray.push]
theorem ZJC:∀ (xs:List Int) (s:ByteArray),(xs.foldl (λs n=>s.push (UInt8.ofNat n.toNat)) s).data.toList=s.data.toList++xs.map λn=>UInt8.ofNat n.toNat
 | [],s=>by simp
 | x::xs,s=>by rw[Xy,ZJC xs,ZMv];simp
theorem ZIz(xs:List Int):(ZKM xs).data.toList=xs.map λn=>UInt8.ofNat n.toNat:=by unfold ZKM;rw[ZJC];rfl
theorem ZbA(r:0<=x/\x<256)(w:0<=y/\y<256)(h:UInt8.ofNat x.toNat=UInt8.ofNat y.toNat):x=y:=by have:=congrArg UInt8.toNat h;simp only[UInt8.toNat_ofNat']at this;omega
theorem ZQ5:∀ {xs ys:List Int},ZAD xs->ZAD ys->(xs.map λn=>UInt8.ofNat n.toNat)=(ys.map λn=>UInt8.ofNat n.toNat)->xs=ys
 | [],[],_,_,_=>rfl
 | [],_::_,_,_,h=>by cases h
 | _::_,[],_,_,h=>by cases h
 | x::xs,y::ys,hx,hy,h=>by simp only[XS,List.cons.injEq]at h;rw[ZbA (hx x (by simp)) (hy y (by simp)) h.1,ZQ5 (λb r=>hx b (by simp[r])) (λb r=>hy b (by simp[r])) h.2]
theorem ZWp(r:ZAD xs)(w:ZAD ys):ZK8 (ZKM xs) (ZKM ys)=decide (xs=ys):=by
 rw[XA,Vx];constructor
 .intro h;have h:(ZKM xs).toList=(ZKM ys).toList:=by simpa[ZK8]using h
  rw[ByteArray.toList_eq,ByteArray.toList_eq,ZIz,ZIz]at h;exact ZQ5 r w h
 .rintro rfl;exact ZPc _
def ZYq:Value:=.iface 369 (.agg #[])
theorem ZZZ(E:g.sub h)(r:Row (cI .u8) g p0 bs)(D:ZAD bs)(w:bs.length<=p0.cap)(hl:bs.length<=1000000){Q:Int×Sl->Hp->Prop}{S:Value->Hp->Prop}(F:∀ v k,ZAZ bs=some (v,k)->Q (v,⟨Zh p0.a k p0.cap 1,p0.len-k,p0.cap-k⟩) h)(G:ZAZ bs=none->S ZYq h):
 ZE5 TP 276 [Value.slice p0.a p0.len p0.cap] (ZV [ci,cSl]) h Q S:=by
 refine c276 ?_;unfold F276;refine ZOr E r D w hl ?_;cases A:ZAZ bs with
 | none=>
   rw[ZDv A];refine ZI (λ_ _=>False) (λ_ _ h=>h.elim) λJ C=>?_;exact Zf rfl (G A)
 | some x=>
   obtain⟨v,k⟩:=x;obtain⟨_,_,_,H,_⟩:=ZCK D A;rw[ZFH A];refine ZI (λ_ h'=>h'=h) ?_ λJ C=>ZU rfl (C _ _ rfl);rintro _ h' rfl;refine⟨Xb k,by have:=r.1;dsimp only;omega,?_⟩;rw[show ((v,(k:Int),true).2.1).toNat=k by simp];exact F v k A
theorem ZN9{p:Sl}(r:Row (cI .u8) g p bs)(w:bs.length<=p.cap)(C:k<=bs.length):Row (cI .u8) g ⟨Zh p.a k p.cap 1,p.len-k,p.cap-k⟩ (bs.drop k):=by have hl:=r.1;have A:=r.cut (k:=k) (m:=p.len) (cap':=p.cap-k) (by omega) (by omega) w rfl (z:=1) rfl;rwa[XU (by simp;omega)]at A
theorem ZSL{b:Addr}(r:K h):ZB0 TP 275 [vp (some a),vp (some b)] none h K:=by refine c275_0 ?_;unfold F275_0;exact r
variable {l:List Hp}
theorem ZTu(o:On h (ob b1 [v1] e1::ob b2 [v2] e2::l))(A:∀ h',On h' (ob b1 [Value.slice none 0 0] e1::ob b2 [vi 2] e2::l)->K h'):
 ZB0 TP 275 [vp (sj b1),vp (sj b2)] (some ZYq) h K:=by
 refine c275_1 ?_;unfold F275_1;refine ZI (λ_ h'=>h'=h) ?_ λJ w=>w _ _ rfl;rintro _ h' rfl;refine ZX (vs':=[Value.slice none 0 0]) (cd:=cSl) (i:=0) (x:=(⟨none,0,0⟩:Sl)) o rfl rfl (Xc 1) λD C=>?_;refine ZX (vs':=[vi 2]) (cd:=ci) (i:=0) (x:=(2:Int)) C.swap rfl rfl (Xc 1) λr o2=>?_;exact A r o2.swap
theorem ZaH(o:On h l)(hg:g∈l)(r:Row (cI .u8) g p0 bs)(hb:ZAD bs)(N:bs.length<=p0.cap)(hl:bs.length<=1000000){Q:Sl×Int->Hp->Prop}(h0:ZLl bs n=none->∀ h',On h' l->Q (⟨none,0,0⟩,2) h')(h1:∀ ns,ZLl bs n=some ns->∀ s d h',On h' (d::l)->Own ci d s ns->Q (s,0) h'):
 cx 194 [Value.slice p0.a p0.len p0.cap,vi n] (ZV [cSl,ci]) h Q:=by
 refine c194 ?_
 unfold F194
 refine ZH o λk1 h2 o2=>?_
 refine ZH o2 λW h3 o3=>?_
 have X:On h3 (ob k1 [Value.slice none 0 0] 76::ob W [vi 0] 192::Hp.emp::l):=(o3.emp.pull 2 rfl).pick [0,2,1] 3
 -- what is left of a panic
 have C:∀ {v1:Value} {d h':Hp},ZLl bs n=none->On h' (ob k1 [v1] 76::ob W [vi 0] 192::d::l)->
  ZB0 TP 275 [vp (sj k1),vp (sj W)] (some ZYq) h' λH=>
   ZC cSl ⟨k1,0,none⟩ H λs4=>ZC ci ⟨W,0,none⟩ H λn1=>Q (s4,n1) H:=by
  intro v1 d h' M o'
  refine ZTu o' λh5 Y=>?_
  refine ZL (x:=(⟨none,0,0⟩:Sl)) Y 0 rfl rfl ?_
  refine ZL (cd:=ci) (x:=(2:Int)) Y 1 rfl rfl ?_
  exact h0 M h5 Y.tail.tail.tail
 refine ZI (λ_ h'=>h'=h3/\¬n<0) ?_ λJ3 hJ3=>?_
 ·rintro _ h' ⟨rfl,P⟩
  have L:ZLl bs n=ZMY n.toNat bs:=by unfold ZLl;rw[Xd P]
  refine Zc (λs h'=>∃ (w ns:List Int) (sl:Sl) (d:Hp),Row (cI .u8) g s w/\ZAD w/\w.length<=s.cap/\ns.length+w.length<=bs.length/\ns.length<=n.toNat/\ZMY n.toNat bs=(ZMY (n.toNat-ns.length) w).map (ns++·)/\
   On h' (ob k1 [sv sl] 76::ob W [vi 0] 192::d::l)/\Own ci d sl ns) (λs=>s.len)
   ⟨bs,[],⟨none,0,0⟩,Hp.emp,r,hb,N,by simp,Xh _,by simp,X,Own.nil _⟩ ?_
  rintro J1 s h4 G ⟨w,ns,sl,d,rs,I,D,hlen,hnl,A,F,wd⟩
  have hsl:sl.len=ns.length:=wd.1
  have V:s.len=w.length:=rs.1
  refine ZL (x:=sl) F 0 rfl rfl ?_
  refine ZG (λhlt=>?_) λhge=>?_
  .have E:n.toNat-ns.length=(n.toNat-ns.length-1)+1:=by omega
   refine ZZZ (F.mem (by simp[hg])) rs I D (by omega) (λv k M=>?_) λM=>?_
   .obtain ⟨_,_,_,hk,hk0⟩:=ZCK I M
    refine ZL (x:=sl) F 0 rfl rfl ?_
    refine ZH F λk3 h5 Y=>?_
    have rv:Row ci (ob k3 [vi v] 2) ⟨sj k3,1,1⟩ [v]:=Zk rfl rfl
    have Z:=Y.pull 3 rfl
    refine ZW (s:=sl) (t:=⟨sj k3,1,1⟩) Z rfl wd (by decide) rv (Z.get (i:=1) rfl) (by unfold ZAW;simp;omega) λd6 p6 n6 m6 h6 o6 w6=>?_
    refine ZX (vs':=[Value.slice p6 n6 m6]) (cd:=cSl) (i:=0) (x:=(⟨p6,n6,m6⟩:Sl)) (o6.pull 2 rfl) rfl rfl (Xc 1) λh7 o7=>?_
    refine G _ _ ⟨w.drop k,ns++[v],⟨p6,n6,m6⟩,d6,ZN9 rs D hk,I.drop k,by simp;omega,by simp;omega,by simp;omega,?_,o7.pick [0,3,1] 4,w6⟩ (by dsimp only;omega)
    rw[A,E,ZBf M,Xg,Xv,show n.toNat-(ns.length+1)=n.toNat-ns.length-1 by omega,Option.map_map]
    congr 1
    funext x
    simp
   .refine C ?_ F
    rw[L,A,E,ZE8 M];rfl
  .have hz:n.toNat-ns.length=0:=by omega
   rw[hz]at A
   refine ZI (λ_ h'=>h'=h4/\w=[]) ?_ λJ2 hJ2=>?_
   .rintro _ h5 ⟨rfl,ZKj⟩
    refine ZL (x:=sl) F 0 rfl rfl ?_
    refine ZX (vs':=[sv sl]) (cd:=cSl) (i:=0) (x:=sl) F rfl rfl (Xc 1) λh6 o6=>?_
    refine ZX (vs':=[vi 0]) (cd:=ci) (i:=0) (x:=(0:Int)) o6.swap rfl rfl (Xc 1) λh7 o7=>?_
    refine ZSL ?_
    refine ZL (x:=sl) o7 1 rfl rfl ?_
    refine ZL (cd:=ci) (x:=(0:Int)) o7 0 rfl rfl ?_
    refine h1 ns ?_ sl d h7 o7.tail.tail wd
    rw[L,A,ZKj]
    simp[ZMY]
   .refine ZG (λR=>?_) λR=>hJ2 _ _ ⟨rfl,WJ.1 (by omega)⟩
    refine C ?_ F
    rw[L,A]
    cases w with
    | nil=>simp at V;omega
    | cons c w=>rfl
 .refine ZG (λP=>?_) λP=>hJ3 _ _ ⟨rfl,P⟩
  refine C ?_ X
  unfold ZLl;rw[Xe P]
theorem ZWP{l:List Int}(h:∀ n∈l,I64 n)(r:n=l.length):ZLl (ZEx l) n=some l:=by subst r;unfold ZLl;rw[Xd (by omega)];exact ZO5 l [] h
def mkF(n:Int)(m:Msg):ZY:=⟨n,m.Kind,m.F_0,m.F_1,m.F_2,m.F_3,m.F_4,m.F_5⟩
def ZDp{α:Type}(n:Nat)(l:List α):List α:=l.drop (l.length-n)
theorem ZF6(n:Nat)(l:List α):(ZDp n l).length=min n l.length:=by unfold ZDp;simp;omega
theorem ZQX(n:Nat)(l:List α)(x:α):ZDp (n+1) (l++[x])=ZDp n l++[x]:=by unfold ZDp;rw[Xg,Xv,XF (by omega)];congr 2;omega
def ZCb(p:Option Addr)(all:List ZY)(c:Hp):Prop:=
 ∃ b e sl d,p=sj b/\On c [ob b [sv sl,vi (all.length+1:Nat)] e,d]/\Own ZZ d sl (ZDp 64 all)
theorem ZYu(o:On h l){Q:Option Addr->Hp->Prop}(w:∀ p c h',On h' (c::l)->ZCb p [] c->Q p h'):cx 181 [] cP h Q:=by refine c181 ?_;unfold F181;refine ZH o λk1 r A=>?_;have o2:On r ([ob k1 [Value.slice none 0 0,vi 1] 355,Hp.emp]++l):=A.emp.swap;obtain⟨C,D⟩:=o2.joined;exact w _ _ _ C ⟨k1,355,⟨none,0,0⟩,Hp.emp,rfl,D,Own.nil _⟩
theorem ZT2{fs:List ZY}(o:On h l)(D:l[i]?=some g)(r:Row ZZ g p0 fs)(hl:fs.length<=1000000)(w:∀ s d h',On h' (d::l)->Own ZZ d s fs->Q s h'):cx 351 [Value.slice p0.a p0.len p0.cap] cSl h Q:=by
 refine c351 ?_;refine ZD (λE=>?_) λ_=>?_
 .have C:p0.a=none:=YG.1 E;have:fs=[]:=by have:=r.2;rw[C]at this;exact this
  subst this;exact w _ Hp.emp h o.emp (Own.nil _)
 .refine ZH o λk1 I A=>?_;have G:Own ZZ (ob k1 [] 161) ⟨sj k1,0,0⟩ []:=ZAx (cd:=ZZ) (xs:=[]) (rest:=[]) rfl rfl rfl;exact ZW (g:=g) (s:=⟨sj k1,0,0⟩) (t:=p0) A rfl G (by decide) r (A.get (i:=i+1) (by simpa using D)) (by unfold ZAW;simp;omega) λc p M N L F H=>w _ c _ F H
theorem ZP5{d:Hp}{f:ZY}{fs:List ZY}(o:On h (d::l))(w:Own ZZ d p0 (f::fs))(hl:fs.length<=1000000)(G:∀ s C h',On h' (C::l)->Own ZZ C s fs->Q s h'):cx 352 [Value.slice p0.a p0.len p0.cap,vi 0,vi 1] cSl h Q:=by
 have r:p0.len=fs.length+1:=w.1;have A:fs.length+1<=p0.cap:=w.le_cap (by decide);have D:p0.a≠none:=by intro F;have:=w.2;rw[F]at this;cases this.2
 refine c352 ?_;refine⟨by omega,by omega,by omega,by omega,by omega,?_⟩;refine ZU (by decide) ?_;refine⟨by omega,by omega,by omega,by omega,?_⟩;have M:Own ZZ d ⟨p0.a,0,p0.cap⟩ []:=w.head rfl (Xh _);have L:Row ZZ d ⟨Zh p0.a 1 p0.cap 8,p0.len-1,p0.cap⟩ fs:=by have:=(w.row).cut (k:=1) (m:=p0.len) (cap':=p0.cap) (by omega) (by rw[r];simp) (by simpa using A) rfl (z:=8) rfl;simpa[r]using this
 have e1:Zh p0.a 0 p0.cap 8=p0.a:=by
  unfold Zh;split
  .rfl
  .cases p0.a<;>rfl
 change ZR ZZ 161 64 (Zh p0.a 0 p0.cap 8) 0 p0.cap (Zh p0.a 1 p0.cap 8) (p0.len-1) h _;rw[e1];refine ZLb (s:=⟨p0.a,0,p0.cap⟩) (t:=⟨Zh p0.a 1 p0.cap 8,p0.len-1,p0.cap⟩) o rfl M L (o.get (i:=0) rfl) (by simp;omega) D λC h' I w'=>?_;rw[XV]at w';have H:([]:List ZY).length+fs.length=fs.length:=by simp
 rw[H]at w' ⊢;refine⟨by omega,by omega,by dsimp only;omega,?_⟩;refine ZGC (s:=⟨p0.a,fs.length,p0.cap⟩) (xs:=fs) I rfl (by decide) w' (k:=(fs.length:Int).toNat) (m:=(p0.len:Int).toNat-(fs.length:Int).toNat) (by omega) (by dsimp only;omega) (by omega) rfl λc2 E o2 N=>?_;exact G _ c2 E o2 N
variable {c:Hp}
theorem ZXb{m:Msg}(o:On h (c::l))(w:ZCb p all c)(hl:all.length<=1000000000){Q:ZY->Hp->Prop}(hq:∀ c' h',On h' (c'::l)->ZCb p (all++[mkF (all.length+1:Nat) m]) c'->Q (mkF (all.length+1:Nat) m) h'):cx 319 [vp p,ZAk.enc m] ZZ h Q:=by
 obtain⟨b,e,sl,d,rfl,oc,wd⟩:=w;refine c319 ?_;dsimp only[ZM];have os:=o.split oc;refine ZU rfl ?_;refine ZL (x:=((all.length+1:Nat):Int)) os 0 rfl rfl ?_;refine ZL (x:=((all.length+1:Nat):Int)) os 0 rfl rfl ?_;refine ZX (cd:=ci) (i:=1) (vs':=[sv sl,vi (all.length+1+1:Nat)]) os rfl ?_ (Xc 2) λh1 o1=>?_
 .rw [Z1 (by omega)];rfl
 refine ZL (x:=sl) o1 0 rfl rfl ?_;refine ZH o1 λk1 h2 o2=>?_;have rf:Row ZZ (ob k1 _ 161) ⟨sj k1,1,1⟩ [mkF (all.length+1:Nat) m]:=Zk (cd:=ZZ) (xs:=[mkF (all.length+1:Nat) m]) rfl rfl;have hll:(ZDp 64 all).length<=64:=by rw[ZF6];omega
 have M:=o2.pull 2 rfl;refine ZW (s:=sl) (t:=⟨sj k1,1,1⟩) M rfl wd (by decide) rf (M.get (i:=1) rfl) (by unfold ZAW;simp;omega) λd3 H E G h3 o3 N=>?_;have Z:=o3.pull 2 rfl;refine ZX (vs':=[Value.slice H E G,vi (all.length+1+1:Nat)]) (cd:=cSl) (i:=0) (x:=(⟨H,E,G⟩:Sl)) Z rfl rfl (Ws 1) λh4 o4=>?_;have L:∀ (r:Sl) (A h':Hp),On h' (ob b [sv r,vi (all.length+1+1:Nat)] e::A::l)->Own ZZ A r (ZDp 64 (all++[mkF (all.length+1:Nat) m]))->Q (mkF (all.length+1:Nat) m) h':=by intro r A h' o' w';obtain⟨o5,o6⟩:=On.joined (cs:=[ob b [sv r,vi (all.length+1+1:Nat)] e,A]) (l:=l) o';refine hq _ _ o5 ⟨b,e,r,A,rfl,?_,w'⟩;rw[Xg];exact o6
 have F:=ZQX 63 all (mkF (all.length+1:Nat) m);refine ZI (λ_ P=>∃ (r:Sl) (A:Hp),On P (ob b [sv r,vi (all.length+1+1:Nat)] e::A::l)/\Own ZZ A r (ZDp 64 (all++[mkF (all.length+1:Nat) m]))) ?_ λJ hJ=>?_
 .rintro _ P ⟨r,A,o5,w5⟩;exact L r A P o5 w5
 ·have D:On h4 (ob b [sv ⟨H,E,G⟩,vi (all.length+1+1:Nat)] e::d3::l):=o4.sublist (by simp[sv]);refine ZL (x:=(⟨H,E,G⟩:Sl)) D 0 rfl rfl ?_;have W:E=(ZDp 64 all).length+1:=by have:=N.1;simpa using this
  rw[ZF6]at W;refine ZG (λV=>?_) λX=>?_
  .dsimp only at V;have h64:64<=all.length:=by omega
   have C:∃ f fs,ZDp 64 all=f::fs/\ZDp 63 all=fs:=by
    unfold ZDp;have Y:all.length-64<all.length:=by omega
    refine⟨all[all.length-64],all.drop (all.length-64+1),XZ Y,?_⟩;congr 1;omega
   obtain⟨f,fs,R,I⟩:=C;refine ZL (x:=(⟨H,E,G⟩:Sl)) D 0 rfl rfl ?_;rw[R]at N;have hfl:fs.length<=63:=by rw[<-I,ZF6];omega
   refine ZP5 (p0:=⟨H,E,G⟩) (fs:=fs++[mkF (all.length+1:Nat) m]) D.swap N (by simp;omega) λr A h6 o6 w6=>?_;refine ZX (vs':=[sv r,vi (all.length+1+1:Nat)]) (cd:=cSl) (i:=0) (x:=r) o6.swap rfl rfl (Ws 1) λh7 o7=>?_;exact hJ _ _ ⟨r,A,o7,by rw[F,I];exact w6⟩
  .dsimp only at X;refine hJ _ _ ⟨⟨H,E,G⟩,d3,D,?_⟩;have:ZDp 64 (all++[mkF (all.length+1:Nat) m])=ZDp 64 all++[mkF (all.length+1:Nat) m]:=by unfold ZDp;rw[show all.length-64=0 by omega,show (all++[mkF (all.length+1:Nat) m]).length-64=0 by simp;omega];rfl
   rw[this];exact N
def ZEJ(n:Nat)(seq:Int):Prop:=seq<1\/seq>(n:Int)+1\/seq<(n:Int)+1-64
theorem ZPD(o:On h (c::l))(w:ZCb p all c)(hl:all.length<=1000000000)(Z:-9223372036854775808<=seq/\seq<=9223372036854775807){Q:Sl×Bool->Hp->Prop}(L:ZEJ all.length seq->Q (⟨none,0,0⟩,false) h)(M:¬ZEJ all.length seq->∀ s C h',On h' (C::c::l)->Own ZZ C s (all.drop (seq-1).toNat)->Q (s,true) h'):cx 316 [vp p,vi seq] (ZV [cSl,cB]) h Q:=by
 have w':=w;obtain⟨b,e,sl,d,rfl,G,D⟩:=w;refine c316 ?_;dsimp only[ZM];have os:=o.split G;have V:sl.len=min 64 all.length:=by rw[D.1,ZF6]
 refine ZI (λt h'=>h'=h/\(t=true->ZEJ all.length seq)/\(t=false->¬ZEJ all.length seq)) ?_ λJ E=>?_
 .rintro t h' ⟨rfl,W,P⟩;refine ZD (λe=>L (W e)) λI=>?_;have A:=P I;unfold ZEJ at A;refine ZL (cd:=cSl) (x:=sl) os 0 rfl rfl ?_;refine ZL (cd:=cSl) (x:=sl) os 0 rfl rfl ?_;refine ZL (cd:=ci) (x:=((all.length+1:Nat):Int)) os 0 rfl rfl ?_;rw[w64 (n:=((all.length+1:Nat):Int)-seq) (by omega) (by omega),w64 (by omega) (by omega)];have R:((sl.len:Int)-(((all.length+1:Nat):Int)-seq)).toNat=sl.len-(all.length+1-seq.toNat):=by omega
  refine⟨by omega,by omega,?_⟩;rw[R];have r:=D.le_cap (by decide);have F:(ZDp 64 all).length=sl.len:=D.1.symm;have H:=D.row.cut (k:=sl.len-(all.length+1-seq.toNat)) (m:=sl.len) (cap':=sl.cap-(sl.len-(all.length+1-seq.toNat))) (by omega) (by omega) r rfl (z:=8) rfl;have ZFq:((ZDp 64 all).drop (sl.len-(all.length+1-seq.toNat))).take (sl.len-(sl.len-(all.length+1-seq.toNat)))=all.drop (seq-1).toNat:=by rw[XU (by simp;omega)];unfold ZDp;rw[Yl];congr 1;omega
  rw[ZFq]at H;have X:=o.split G;refine ZT2 (p0:=⟨Zh sl.a (sl.len-(all.length+1-seq.toNat)) sl.cap 8,sl.len-(sl.len-(all.length+1-seq.toNat)),sl.cap-(sl.len-(all.length+1-seq.toNat))⟩) o (i:=0) rfl (H.sub (G.get (i:=1) rfl)) (by simp;omega) λs C N o2 Y=>?_;exact M A s C N o2 Y
 .refine ZU rfl ?_;refine ZG (λe=>E _ _ ⟨rfl,λ_=>.inl e,λh=>by cases h⟩) λe1=>?_;refine ZL (cd:=ci) (x:=((all.length+1:Nat):Int)) os 0 rfl rfl ?_;refine ZG (λe=>E _ _ ⟨rfl,λ_=>.inr (.inl (by omega)),λh=>by cases h⟩) λe2=>?_;refine ZL (cd:=ci) (x:=((all.length+1:Nat):Int)) os 0 rfl rfl ?_;refine ZL (cd:=cSl) (x:=sl) os 0 rfl rfl ?_;rw[w64 (by omega) (by omega)];refine E _ _ ⟨rfl,λh=>?_,λh=>?_⟩
  .have h:=Ww h;unfold ZEJ;omega
  .have h:=Vm h;unfold ZEJ;omega
def ZF5(p:Option Addr)(n:Nat)(q:List (List Int))(shut:Bool)(c:Hp):Prop:=
 ∃ b e r s r' ss ds,p=sj b/\On c (ob b [.chan (some r),.bool shut] e::Hp.one r (.chan n (List.toArray (ss.map sv)) false s r' false)::ds)/\ZRl ds ss q
theorem ZbV(o:On h l){Q:Option Addr->Hp->Prop}(F:n<1\/256<n->Q none h)(I:∀ p c h',1<=n->n<=256->On h' (c::l)->ZF5 p n.toNat [] false c->Q p h'):
 cx 106 [vi n] cP h Q:=by
 refine c106 ?_;refine ZI (λt C=>C=h/\(t=true->n<1\/256<n)/\(t=false->1<=n/\n<=256)) ?_ λJ D=>?_
 .rintro t C ⟨rfl,L,H⟩;refine ZD (λe=>F (L e)) λe=>?_;obtain⟨w,A⟩:=H e;refine⟨by omega,by omega,by omega,λk1 r=>?_⟩;have M:=o.new r (.chan n.toNat #[] false 0 0 false);refine ZH M λE G o2=>?_;have N:On G ([ob E [.chan (some k1),.bool false] 281,Hp.one k1 (.chan n.toNat #[] false 0 0 false)]++l):=o2;obtain⟨P,R⟩:=N.joined;exact I _ _ _ w A P ⟨E,_,k1,0,0,[],[],rfl,R,trivial⟩
 .refine ZG (λe=>D _ _ ⟨rfl,λ_=>.inl e,λh=>by cases h⟩) λe=>D _ _ ⟨rfl,λh=>.inr (by simpa using h),λh=>⟨by omega,by simpa using h⟩⟩
theorem Za3{n:Nat}{m:Sl}(o:On h (c::l))(w:ZF5 p n q shut c)(hi:(c::l)[i]?=some g)(r:Row (cI .u8) g m bs)(hl:bs.length<=1000000){Q:Bool->Hp->Prop}(M:∀ P h',On h' (P::l)->ZF5 p n (bif !shut&&decide (q.length<n) then q++[bs] else q) shut P->Q (!shut&&decide (q.length<n)) h'):
 cx 264 [vp p,Value.slice m.a m.len m.cap] cB h Q:=by
 have w':=w;obtain⟨b,e,rb,s,I,ss,F,rfl,X,N⟩:=w;refine c264 ?_;have os:=o.split X;refine ZI (λt R=>R=h/\t=shut) ?_ λJ Z=>?_
 ·rintro t R ⟨rfl,rfl⟩;refine ZD (λL=>?_) λL=>?_
  .subst L;exact M c _ o (by simpa using w')
  .subst L;refine ZL (x:=some rb) os 0 rfl rfl ?_;refine ZO7 o hi r hl λs1 E Y o2 w2=>?_;have H:=o2.swap.split X;have hc:=H.get (i:=1) rfl _ _ (ZPE _ _);refine⟨n,(ss.map sv).toArray,s,I,hc,λA=>?_,λD=>?_⟩
   .have G:q.length=ss.length:=(ZRl.len N).symm;have C:¬q.length<n:=by simp at A;omega
    have:=M c Y (o2.swap.sublist (XC c (Xz _ _)));simp only[Bool.not_false,Wq,Xj C,Yu]at this;exact this w'
   .have G:q.length=ss.length:=(ZRl.len N).symm;have C:q.length<n:=by simp at D;omega
    have V:=(H.swap.upd (ZPE _ _) (.chan n ((ss.map sv).toArray.push (sv s1)) false (s+1) I false))
    rw[ZIB]at V;have W:On _ (ob b [.chan (some rb),.bool false] e::Hp.one rb (.chan n ((ss.map sv).toArray.push (sv s1)) false (s+1) I false)::(F++E::l)):=V.swap;rw[show F++E::l=(F++[E])++l by simp]at W;obtain⟨o8,o9⟩:=On.joined (cs:=_::_::(F++[E])) (l:=l) W;have:=M _ _ o8;simp only[Bool.not_false,Wq,XB C,XL]at this;refine this ⟨b,e,rb,s+1,I,ss++[s1],F++[E],rfl,?_,N.push w2⟩
    .rw [Wo];simpa using o9
 .refine ZU rfl ?_;exact ZL (x:=shut) os 0 rfl rfl (Z _ _ ⟨rfl,rfl⟩)
theorem ZY5{n:Nat}(o:On h (c::l))(w:ZF5 p n q shut c){Q:Sl×Bool->Hp->Prop}(D:q=[]->Q (⟨none,0,0⟩,false) h)(E:∀ bs q' s d G h',q=bs::q'->On h' (G::d::l)->ZF5 p n q' shut G->Own (cI .u8) d s bs->Q (s,true) h'):cx 188 [vp p] (ZV [cSl,cB]) h Q:=by
 obtain⟨b,e,rb,s,A,ss,r,rfl,P,C⟩:=w;refine c188 ?_;have os:=o.split P;refine ZU rfl ?_;refine ZL (x:=some rb) os 0 rfl rfl ?_;have F:=os.get (i:=1) rfl _ _ (ZPE _ _);refine⟨n,ss.map sv,s,A,F,?_⟩;match r,ss,q,C,os,F,D,E with
 | [],[],[],_,_,_,D,_=>exact D rfl
 | d::r,s1::ss,bs::q,C,os,F,_,E=>
    refine⟨s1,rfl,?_⟩;have H:=(os.swap.upd (ZPE _ _) (.chan n (List.toArray (ss.map sv)) false s (A+1) false))
    rw[ZIB]at H;have I:On _ (ob b [.chan (some rb),.bool shut] e::Hp.one rb (.chan n (List.toArray (ss.map sv)) false s (A+1) false)::d::(r++l)):=H.swap;have L:=I.perm (l':=(ob b [.chan (some rb),.bool shut] e::Hp.one rb (.chan n (List.toArray (ss.map sv)) false s (A+1) false)::r)++(d::l)) (XQ _ (XQ _ Wg.symm));obtain⟨M,N⟩:=L.joined;exact E bs q s1 d _ _ rfl M ⟨b,e,rb,s,A+1,ss,r,rfl,N,C.2⟩ C.1
def ZEe(bs:List Int):Int:=bs.foldl ZEE 0
def ZC9(n:Int):List Int:=[n / 16777216 % 256,n / 65536 % 256,n / 256 % 256,n % 256]
def ZBQ(body:List Int):List Int:=197::(body.length:Int)::body
def ZBH(body:List Int):List Int:=ZBQ body++ZC9 (ZEe (ZBQ body))
theorem ZC0(n:Int):(ZC9 n).length=4:=rfl
theorem ZEk(body:List Int):(ZBH body).length=body.length+6:=by simp[ZBH,ZBQ,ZC0]
theorem ZJO(n:Int):ZAD (ZC9 n):=by intro b r;simp only[ZC9,Xm,XW,Ye]at r;rcases r with rfl|rfl|rfl|rfl<;>omega
theorem ZGf(w:ZAD body)(hl:body.length<=80):ZAD (ZBQ body):=by
 intro b r;simp only[ZBQ,Xm]at r;rcases r with rfl|rfl|r
 .omega
 .omega
 .exact w b r
theorem ZNY(w:ZAD body)(hl:body.length<=80):ZAD (ZBH body):=by
 intro b r;rcases Xx.1 r with r|r
 .exact ZGf w hl b r
 .exact ZJO _ b r
theorem ZGU(r:ZAD bs):0<=ZEe bs/\ZEe bs<4294967296:=by obtain⟨w,A,F,C,D,E⟩:=ZOt bs 0 0 ZWi r;unfold ZEe;omega
def ZEA(x y:Int)(l:List Int):Option (List Int×Nat):=
 if x=197/\y<=80/\y.toNat+4<=l.length/\(l.drop y.toNat).take 4=ZC9 (ZEe (197::y::l.take y.toNat)) then some (l.take y.toNat,y.toNat+6) else none
def ZCd:List Int->Option (List Int×Nat)
 | x::y::l=>ZEA x y l
 | _=>none
theorem ZQY(E:ZAD bs)(h:ZCd bs=some (body,k)):body.length<=80/\k=body.length+6/\bs.take k=ZBH body/\k<=bs.length:=by
 match bs,h with
 | x::y::l,h0=>
   have w:ZEA x y l=some (body,k):=h0;clear h0;by_cases A:x=197/\y<=80/\y.toNat+4<=l.length/\(l.drop y.toNat).take 4=ZC9 (ZEe (197::y::l.take y.toNat))
   .rw [ZEA,Xe A]at w;obtain⟨rfl,D,C,r⟩:=A;cases w;have F:=E y (by simp);have hl:(l.take y.toNat).length=y.toNat:=by rw[Xk];omega
    refine⟨by omega,by omega,?_,by simp;omega⟩;unfold ZBH ZBQ;rw[hl,show ((y.toNat:Nat):Int)=y by omega,<-r];show (197::y::l).take (y.toNat+4+1+1)=_;rw[Vu,Vu,List.take_add,Va,Va]
   .rw [ZEA,Xd A]at w;cases w
theorem ZPZ(hl:body.length<=80)(rest:List Int):ZCd (ZBH body++rest)=some (body,body.length+6):=by
 show ZEA 197 (body.length:Int) ((body++ZC9 (ZEe (ZBQ body)))++rest)=_;unfold ZEA;have e1:(body++ZC9 (ZEe (ZBQ body))++rest).take body.length=body:=by rw[Xu,Wt (Xc _),Xo]
 rw[Xe]
 .simp only[XD];rw[e1]
 .simp only[XD];refine⟨trivial,by omega,by simp[ZC0],?_⟩;rw[e1,Xu,XF (Xc _),XY,XV];exact Wt (by simp[ZC0])
theorem ZVZ(k:Nat):u8.wrap (ZBK .u32 n (k:Int))=n.fdiv (2 ^ (min k 32)) % 256:=by rw[ZII];rfl
theorem ZR1(o:On h l)(Z:0<=n/\n<4294967296)(M:∀ s d h',On h' (d::l)->Own (cI .u8) d s (ZC9 n)->Q s h'):cx 271 [Value.int .u32 n] cSl h Q:=by
 refine c271 ?_;refine⟨by decide,by decide,by decide,by decide,?_⟩;refine ZH o λk1 X P=>?_;have V:Own (cI .u8) (ob k1 [Value.int .u8 0,Value.int .u8 0,Value.int .u8 0,Value.int .u8 0] 5) ⟨sj k1,4,4⟩ [0,0,0,0]:=ZAx (rest:=[]) rfl rfl rfl;refine Zc (λz h'=>∃ (i:Nat) (d:Hp) (xs:List Int),z=i/\i<=4/\xs.length=4/\xs.take i=(ZC9 n).take i/\On h' (d::l)/\Own (cI .u8) d ⟨sj k1,4,4⟩ xs) (λz=>4-z.toNat) ⟨0,_,[0,0,0,0],rfl,Xh _,rfl,rfl,P,V⟩ ?_;rintro J z G r ⟨i,d,xs,rfl,L,D,C,o2,E⟩
 refine ZG (λA=>?_) λI=>?_
 .have A:i<4:=by omega
  have e1:i64.wrap (8*i64.wrap (3-(i:Int)))=((8*(3-i):Nat):Int):=by rw[w64 (n:=3-(i:Int)) (by omega) (by omega),w64 (by omega) (by omega)];omega
  rw[e1];refine⟨by omega,?_⟩;refine ZN (s:=⟨sj k1,4,4⟩) E.row (by omega) (by omega) λa H=>?_;refine ZA4 (s:=⟨sj k1,4,4⟩) o2 rfl E H (i:=i) (by omega) (by simp) λF Y R W=>?_;refine r _ _ ⟨i+1,F,_,Z1 (by omega),by omega,by rw[Xp];exact D,?_,R,W⟩ (by rw[Z1 (by omega)];omega);have N:(ZC9 n)[i]?=some (u8.wrap (ZBK .u32 n ((8*(3-i):Nat):Int))):=by
   rw[ZVZ,WG _ (Vw (Ua (by decide)))];have:i=0\/i=1\/i=2\/i=3:=by omega
   rcases this with rfl|rfl|rfl|rfl
   .rfl
   .rfl
   .rfl
   .simp [ZC9]
  rw[XH,XH,N,XM (by omega)];rw[Uc (Xc _),C]
 .have w:i=4:=by omega
  subst w;rw[XU (by omega),XU (by rw[ZC0];omega)]at C;subst C;exact M _ d G o2 E
theorem ZYO(o:On h l)(G:0<=n)(V:n<=1000000)(E:∀ s d h',On h' (d::l)->Own (cI .u8) d s []->Q s h'):cx 349 [Value.slice none 0 0,vi n] cSl h Q:=by
 refine c349 (s:=⟨none,0,0⟩) ?_;have e:i64.wrap (n-i64.wrap (((0:Nat):Int)-((0:Nat):Int)))=n:=by rw[show i64.wrap (((0:Nat):Int)-((0:Nat):Int))=0 by decide,w64 (by omega) (by omega)];omega
 refine ZI (λ_ h'=>h'=h) ?_ λJ I=>ZG (λC=>by omega) λ_=>I _ _ rfl;rintro _ H rfl;dsimp only;rw[e];refine ZG (λD=>?_) λ_=>E _ Hp.emp H o.emp (Own.nil _);refine⟨by decide,by decide,?_⟩;refine⟨G,by unfold ZAW;omega,λA=>?_,λA=>⟨by unfold ZAW;simp;omega,rfl,?_⟩⟩
 .exfalso;simp at A;omega
 .intro P w M r b L;have R:=o.new L (.cells (ZO (cI .u8) []++w).toArray 5 (0,0));refine⟨by decide,by simp,?_⟩;have F:Zh (some (⟨b,0,none⟩:Addr)) 0 P 1=sj b:=by unfold Zh;split<;>rfl
  have N:(((0:Nat):Int)).toNat=0:=rfl;simp only[N];rw[F];refine E _ _ _ R ?_;refine ZAx (cd:=cI .u8) (xs:=[]) (rest:=w) rfl rfl ?_;rw[r];simp
theorem ZSJ(o:On h l)(R:g∈l)(r:Row cSl g p0 ss)(X:∀ (i:Nat) (s:Sl) (bs:List Int),ss[i]?=some s->bss[i]?=some bs->∃ c∈l,Row (cI .u8) c s bs)(V:ss.length=bss.length)(hl:bss.flatten.length<=1000000)(hs:ss.length<=1000000)(hq:∀ s d h',On h' (d::l)->Own (cI .u8) d s bss.flatten->Q s h'):cx 314 [Value.slice p0.a p0.len p0.cap] cSl h Q:=by
 refine c314 ?_;have ab:=r.1;have part:∀ i,i<=bss.length->(bss.take i).flatten.length<=1000000:=by intro i D;have:=congrArg List.length (congrArg List.flatten (XO i bss));rw[List.flatten_append,Xg]at this;omega
 have step:∀ i bs,bss[i]?=some bs->(bss.take (i+1)).flatten=(bss.take i).flatten++bs:=by intro i bs D;rw[XH,D];simp
 refine Zc (λz h'=>∃ i:Nat,z.2=i/\i<=ss.length/\z.1=((bss.take i).flatten.length:Nat)/\h'=h) (λz=>ss.length-z.2.toNat) ⟨0,rfl,Xh _,rfl,rfl⟩ ?_;rintro J ⟨x,z⟩ h' again ⟨i,hz,hle,hx,rfl⟩
 dsimp only at hz hx;subst hz hx;refine ZG (λw=>?_) λI=>?_
 .dsimp only at w;have w:i<ss.length:=by omega
  have D:ss[i]?=some ss[i]:=Xa w;have A:bss[i]?=some (bss[i]'(by omega)):=Xa (by omega);obtain⟨c,P,rc⟩:=X i _ _ D A;have N:=part (i+1) (by omega);have C:=step i _ A;rw[C,Xg]at N;have e:i64.wrap ((((bss.take i).flatten.length:Nat):Int)+((ss[i]).len:Int))=(((bss.take (i+1)).flatten.length:Nat):Int):=by rw[rc.1,w64 (by omega) (by omega),C,Xg];omega
  refine ZI (λy F=>F=h'/\y=(((bss.take (i+1)).flatten.length:Nat):Int)) ?_ λJ2 G=>?_
  .rintro y F ⟨rfl,rfl⟩;exact again _ _ ⟨i+1,Z1 (by omega),by omega,rfl,rfl⟩ (by dsimp only;rw[Z1 (by omega)];omega)
  .refine ZN r (Xb i) (by dsimp only;omega) λa H=>ZQ r (o.mem R) rfl H (i:=i) D (by simp) ?_;dsimp only;rw[e];exact ZG (λW=>by omega) λ_=>G _ _ ⟨rfl,rfl⟩
 .dsimp only at I;have L:i=ss.length:=by omega
  subst L;refine ZYO o (by dsimp only;omega) (by dsimp only;have:=part ss.length (by omega);omega) λs1 Y h1 o1 w1=>?_;refine Zc (λz h'=>∃ (i:Nat) (d:Hp),z.2=i/\i<=ss.length/\On h' (d::l)/\Own (cI .u8) d z.1 (bss.take i).flatten) (λz=>ss.length-z.2.toNat) ⟨0,Y,rfl,Xh _,o1,w1⟩ ?_;rintro J3 ⟨s,z⟩ F again2 ⟨j,d,hz,hle2,o2,w2⟩;dsimp only at hz w2;subst hz;refine ZG (λw=>?_) λE=>?_
  .dsimp only at w;have w:j<ss.length:=by omega
   have D:ss[j]?=some ss[j]:=Xa w;have A:bss[j]?=some (bss[j]'(by omega)):=Xa (by omega);obtain⟨c,P,rc⟩:=X j _ _ D A;have N:=part (j+1) (by omega);have C:=step j _ A;rw[C,Xg]at N;refine ZN r (Xb j) (by dsimp only;omega) λa H=>ZQ r (o2.mem (by simp[R])) rfl H (i:=j) D (by simp) ?_;refine ZW (g:=c) (s:=s) (t:=ss[j]) o2 rfl w2 (by decide) rc (o2.mem (by simp[P])) (by unfold ZAW;omega) λZ p3 n3 m3 h3 o3 w3=>?_;refine again2 _ _ ⟨j+1,Z,Z1 (by omega),by omega,o3,?_⟩ (by dsimp only;rw[Z1 (by omega)];omega);rw[C];exact w3
  .dsimp only at E;have M:j=bss.length:=by omega
   subst M;rw[Xo]at w2;exact hq _ d F o2 w2
theorem ZTK{n:Nat}(h:n<=80):u8.wrap ((n:Nat):Int)=(n:Int):=by rw[ZII];omega
variable {Q:Sl×Bool->Hp->Prop}
theorem ZYJ(o:On h l)(M:g∈l)(r:Row (cI .u8) g p0 body)(hb:ZAD body)(hl:body.length<=1000000)(X:80<body.length->Q (⟨none,0,0⟩,false) h)(Y:body.length<=80->∀ s d h',On h' (d::l)->Own (cI .u8) d s (ZBH body)->Q (s,true) h'):cx 262 [Value.slice p0.a p0.len p0.cap] (ZV [cSl,cB]) h Q:=by
 refine c262 ?_;have C:=r.1;refine ZG (λhgt=>X (by omega)) λhle=>?_;have D:body.length<=80:=by omega
 rw[C,ZTK D];refine ZH o λk1 h2 o2=>?_;refine ZH o2 λH L F=>?_;have N:Row (cI .u8) (ob k1 [Value.int .u8 197,Value.int .u8 (body.length:Int)] 5) ⟨sj k1,2,2⟩ [197,(body.length:Int)]:=Zk rfl rfl;have P:Row (cI .u8) g ⟨p0.a,body.length,p0.cap⟩ body:=by rw[<-C];exact r
 have r2:Row cSl (ob H _ 85) ⟨sj H,2,2⟩ [⟨sj k1,2,2⟩,⟨p0.a,body.length,p0.cap⟩]:=Zk (cd:=cSl) (xs:=[⟨sj k1,2,2⟩,⟨p0.a,body.length,p0.cap⟩]) rfl rfl;refine ZaZ (p0:=⟨sj H,2,2⟩) (g:=L) (ss:=[⟨sj k1,2,2⟩,⟨p0.a,body.length,p0.cap⟩]) (bss:=[[197,(body.length:Int)],body]) (Hp.sub_refl L) (r2.sub (F.get (i:=0) rfl)) ⟨N.sub (F.get (i:=1) rfl),P.sub (F.mem (by simp[M])),trivial⟩ (by simp) ?_ ?_
 .intro bs w;simp only[Xm,XW,Ye]at w;rcases w with rfl|rfl
  .simp
  .omega
 have E:([[197,(body.length:Int)],body].flatten).foldl ZEE 0=ZEe (ZBQ body):=by simp[ZEe,ZBQ]
 rw[E];refine ZR1 F (ZGU (ZGf hb D)) λs4 V h4 o4 w4=>?_;refine ZH o4 λI h5 o5=>?_;have r5:Row cSl (ob I _ 85) ⟨sj I,3,3⟩ [⟨sj k1,2,2⟩,⟨p0.a,body.length,p0.cap⟩,s4]:=Zk (cd:=cSl) (xs:=[⟨sj k1,2,2⟩,⟨p0.a,body.length,p0.cap⟩,s4]) rfl rfl;refine ZSJ (p0:=⟨sj I,3,3⟩) (bss:=[[197,(body.length:Int)],body,ZC9 (ZEe (ZBQ body))]) o5 (WQ ..) r5 ?_ rfl ?_ (by simp) λs6 W Z o6 R=>?_
 .intro i s bs A w;match i,A,w with
  | 0,A,w=>cases A;cases w;exact⟨_,by simp,N⟩
  | 1,A,w=>cases A;cases w;exact⟨g,by simp[M],P⟩
  | 2,A,w=>cases A;cases w;exact⟨V,by simp,w4.row⟩
  | i+3,A,w=>cases A
 .simp [ZC0];omega
 have G:[[197,(body.length:Int)],body,ZC9 (ZEe (ZBQ body))].flatten=ZBH body:=by simp[ZBH,ZBQ]
 rw[G]at R;exact Y D s6 W Z (o6.pick [0] 5) R
theorem ZNb(n:Int)(k:Nat)(r:k<=32):ZBK .u32 n (k:Int)=n / (2 ^ k:Nat):=by show n.fdiv (2 ^ (min ((k:Int)).toNat 32))=_;rw[show min ((k:Int)).toNat 32=k by omega,WG _ (Vw (Ua (by decide)))];simp
theorem ZU0(o:On h l)(hg:g∈l)(r:Row (cI .u8) g p0 body)(Z:ZAD body)(hl:body.length<=1000000)(W:80<body.length->Q (⟨none,0,0⟩,false) h)(X:body.length<=80->∀ s d h',On h' (d::l)->Own (cI .u8) d s (ZBH body)->Q (s,true) h'):cx 112 [Value.slice p0.a p0.len p0.cap] (ZV [cSl,cB]) h Q:=by
 refine c112 ?_;have w:=r.1;refine ZG (λhgt=>W (by omega)) λhle=>?_;have A:body.length<=80:=by omega
 rw[w,ZTK A];refine ZH o λk1 h2 o2=>?_;have w2:Own (cI .u8) (ob k1 [Value.int .u8 197,Value.int .u8 (body.length:Int)] 5) ⟨sj k1,2,2⟩ [197,(body.length:Int)]:=ZAx (rest:=[]) rfl rfl rfl;have rp:Row (cI .u8) g ⟨p0.a,body.length,p0.cap⟩ body:=by rw[<-w];exact r
 refine ZW (g:=g) (s:=⟨sj k1,2,2⟩) (t:=⟨p0.a,body.length,p0.cap⟩) o2 rfl w2 (by decide) rp (o2.mem (by simp[hg])) (by unfold ZAW;simp;omega) λP I n3 G h3 L C=>?_;have C:Own (cI .u8) P ⟨I,n3,G⟩ (ZBQ body):=C;have D:(ZBQ body).length=body.length+2:=by simp[ZBQ]
 refine ZZ6 (p0:=⟨I,n3,G⟩) (L.get (i:=0) rfl) C.row (by omega) ?_;have hs:=ZGU (ZGf Z A);have E:(ZBQ body).foldl ZEE 0=ZEe (ZBQ body):=rfl;rw[E];refine⟨by decide,by decide,by decide,?_⟩;refine ZH L λF h4 H=>?_;have V:[Value.int .u8 (u8.wrap (ZBK .u32 (ZEe (ZBQ body)) 24)),Value.int .u8 (u8.wrap (ZBK .u32 (ZEe (ZBQ body)) 16)),Value.int .u8 (u8.wrap (ZBK .u32 (ZEe (ZBQ body)) 8)),Value.int .u8 (u8.wrap (ZEe (ZBQ body)))]=
  ZO (cI .u8) (ZC9 (ZEe (ZBQ body))):=by
  have M:ZBK .u32 (ZEe (ZBQ body)) 24=ZEe (ZBQ body) / 16777216:=ZNb _ 24 (by decide)
  have N:ZBK .u32 (ZEe (ZBQ body)) 16=ZEe (ZBQ body) / 65536:=ZNb _ 16 (by decide)
  have a3:ZBK .u32 (ZEe (ZBQ body)) 8=ZEe (ZBQ body) / 256:=ZNb _ 8 (by decide)
  rw[M,N,a3,ZII,ZII,ZII,ZII]
  rfl
 rw[V]at H;have r4:Row (cI .u8) (ob F (ZO (cI .u8) (ZC9 (ZEe (ZBQ body)))) 5) ⟨sj F,4,4⟩ (ZC9 (ZEe (ZBQ body))):=Zk rfl rfl;refine ZW (s:=⟨I,n3,G⟩) (t:=⟨sj F,4,4⟩) H.swap rfl C (by decide) r4 (H.get (i:=0) rfl) (by unfold ZAW;rw[D,ZC0];omega) λR p5 n5 m5 Y o5 w5=>?_;exact X A _ R Y (o5.sublist (by simp)) w5
theorem ZMl{l:List Int}(w:0<=y/\y<=80):ZCd (197::y::l)=if y.toNat+4<=l.length/\(l.drop y.toNat).take 4=ZC9 (ZEe (197::y::l.take y.toNat)) then some (l.take y.toNat,y.toNat+6) else none:=by
 show ZEA 197 y l=_;unfold ZEA;by_cases r:y.toNat+4<=l.length/\(l.drop y.toNat).take 4=ZC9 (ZEe (197::y::l.take y.toNat))
 .rw [Xe r,Xe ⟨rfl,w.2,r.1,r.2⟩]
 .rw [Xd r,Xd (λh=>r h.2.2)]
theorem ZHU{l:List Int}(h:x≠197\/80<y):ZCd (x::y::l)=none:=by show ZEA x y l=_;unfold ZEA;rw[Xd (by rintro⟨r,w,_⟩;omega)]
theorem ZQS(h:bs.length<2):ZCd bs=none:=by
 match bs,h with
 | [],_=>rfl
 | [_],_=>rfl
 | _::_::_,h=>simp at h;omega
theorem ZZG(o:On h l)(Z:g∈l)(r:Row (cI .u8) g p0 bs)(R:ZAD bs)(A:bs.length<=p0.cap)(hl:bs.length<=1000000){Q:Sl×Int×Bool->Hp->Prop}(X:ZCd bs=none->∀ h',On h' l->Q (⟨none,0,0⟩,0,false) h')(h1:∀ body k,ZCd bs=some (body,k)->∀ s d h',On h' (d::l)->Own (cI .u8) d s body->Q (s,(k:Int),true) h'):
 cx 190 [Value.slice p0.a p0.len p0.cap] (ZV [cSl,ci,cB]) h Q:=by
 refine c190 ?_;have w:=r.1;have L:g.sub h:=o.mem Z;refine ZI (λt h'=>h'=h/\(t=true->ZCd bs=none)/\(t=false->∃ y t,bs=197::y::t/\y<=80)) ?_ λJ2 E=>?_
 ·rintro t h' ⟨rfl,ht,hf⟩;refine ZD (λe=>X (ht e) _ o) λe=>?_;obtain⟨y,t,hbs,V⟩:=hf e;subst hbs;have hy:=R y (by simp);obtain⟨Y,rfl⟩:∃ Y:Nat,y=Y:=⟨y.toNat,by omega⟩
  have F:=ZMl (y:=(Y:Int)) (l:=t) ⟨by omega,V⟩;rw[XD]at F;have hll:p0.len=t.length+2:=by rw[w];rfl
  have hcap':t.length+2<=p0.cap:=by simpa using A
  refine ZN r (by omega) (by simp;omega) λa P=>ZQ r L rfl P (i:=1) (m:=1) rfl rfl ?_;have e1:i64.wrap ((Y:Nat):Int)=(Y:Int):=w64 (by omega) (by omega);have e2:i64.wrap (2+((Y:Nat):Int))=((Y+2:Nat):Int):=by rw[w64 (by omega) (by omega)];omega
  have e3:i64.wrap (((Y+2:Nat):Int)+4)=((Y+6:Nat):Int):=by rw[w64 (by omega) (by omega)];omega
  simp only[e1,e2,e3];refine ZI (λt2 h2=>(∃ la,On h2 (la++l))/\t2=decide (¬(Y+4<=t.length/\(t.drop Y).take 4=ZC9 (ZEe (197::(Y:Int)::t.take Y))))) ?_ λJ1 N=>?_
  .rintro t2 h2 ⟨⟨la,o2⟩,rfl⟩;have W:On h2 l:=o2.sublist (List.sublist_append_right _ _);refine ZG (λhno=>?_) λG=>?_
   .rw [Xd hno]at F;exact X F _ W
   .have G:=Decidable.not_not.1 G;rw[Xe G]at F;refine⟨by omega,by omega,by omega,?_⟩;have rc:=r.cut (k:=2) (m:=Y+2) (cap':=p0.cap-2) (by omega) (by simp;omega) A rfl (z:=1) rfl;obtain⟨gi,hgi⟩:=Ya Z;have hdr:(((197:Int)::(Y:Int)::t).drop 2).take (Y+2-2)=t.take Y:=by simp
    rw[hdr]at rc;have hz1:((((Y+2:Nat):Int)).toNat)=Y+2:=by omega
    have hz2:((2:Int)).toNat=2:=rfl;simp only[hz1,hz2];refine ZO7 (p0:=⟨Zh p0.a 2 p0.cap 1,Y+2-2,p0.cap-2⟩) W hgi rc (by simp;omega) λs3 d3 h3 o3 w3=>?_;exact h1 _ _ F s3 d3 h3 o3 w3
  ·refine ZG (λH=>N _ _ ⟨⟨[],o⟩,?_⟩) λM=>?_
   .rw [XB];rintro⟨h4,_⟩;omega
   .refine ⟨by omega,by omega,?_⟩;refine⟨by omega,by omega,by omega,?_⟩;have hz0:((((Y+2:Nat):Int)).toNat)=Y+2:=by omega
    have hz6:((((Y+6:Nat):Int)).toNat)=Y+6:=by omega
    simp only[hz0,hz6];have ra:=r.cut (k:=0) (m:=Y+2) (cap':=p0.cap-0) (by omega) (by simp;omega) A rfl (z:=1) rfl;have rb:=r.cut (k:=Y+2) (m:=Y+6) (cap':=p0.cap-(Y+2)) (by omega) (by simp;omega) A rfl (z:=1) rfl;have ea:(((197:Int)::(Y:Int)::t).drop 0).take (Y+2-0)=197::(Y:Int)::t.take Y:=by simp
    have eb:(((197:Int)::(Y:Int)::t).drop (Y+2)).take (Y+6-(Y+2))=(t.drop Y).take 4:=by rw[show Y+6-(Y+2)=4 by omega];rfl
    rw[ea]at ra;rw[eb]at rb;refine ZH o λk7 h4 o4=>?_;refine Za7 (s:=⟨Zh p0.a 0 p0.cap 1,Y+2-0,p0.cap-0⟩) o4 0 rfl (ra.sub (o4.mem (by simp[Z]))) (by simp;omega) ?_;have hby:ZAD (197::(Y:Int)::t.take Y):=by
     intro b D;simp only[Xm]at D;rcases D with rfl|rfl|D
     .omega
     .omega
     .exact R b (by simp[WN D])
    have hs:=ZGU hby;have hsv:(197::(Y:Int)::t.take Y).foldl ZEE 0=ZEe (197::(Y:Int)::t.take Y):=rfl;rw[hsv];refine ZR1 o4 hs λs5 d5 h5 o5 w5=>?_;refine c270 (t:=⟨Zh p0.a (Y+2) p0.cap 1,Y+6-(Y+2),p0.cap-(Y+2)⟩) ?_;refine ZSQ w5.row (o5.get (i:=0) rfl) (ZSQ rb (o5.mem (by simp[Z])) ?_);refine N _ _ ⟨⟨[d5,_],o5⟩,?_⟩;have hbt:ZAD ((t.drop Y).take 4):=by intro b D;exact R b (by simp[YJ (WN D)])
    rw[ZWp (ZJO _) hbt];rw[XA];simp only[Ym,Wc,Vx];constructor
    .rintro C ⟨_,he⟩;exact C he.symm
    .intro C he;exact C ⟨by omega,he.symm⟩
 ·refine ZG (λH=>E _ _ ⟨rfl,λ_=>ZQS (by omega),λh=>by cases h⟩) λM=>?_;match bs,r,R,A,hl,X,h1,w,E with
  | [],_,_,_,_,_,_,w,_=>simp at w;omega
  | [_],_,_,_,_,_,_,w,_=>simp at w;omega
  | x::y::t,r,R,A,hl,X,h1,w,E=>
    refine ZN r (by omega) (by simp;omega) λa P=>ZQ r L rfl P (i:=0) (m:=0) rfl rfl ?_;refine ZD (λC=>?_) λI=>?_
    .have C:x≠197:=by simpa using C
     exact E _ _ ⟨rfl,λ_=>ZHU (.inl C),λh=>by cases h⟩
    .have I:x=197:=by simpa using I
     subst I;refine ZN r (by omega) (by simp;omega) λa P=>ZQ r L rfl P (i:=1) (m:=1) rfl rfl ?_;refine E _ _ ⟨rfl,λh=>ZHU (.inr (by have:=Ww h;omega)),λh=>⟨y,t,rfl,by have:=Vm h;omega⟩⟩
end Go.Proofs.YtkmniidiifpdgaaGreat
