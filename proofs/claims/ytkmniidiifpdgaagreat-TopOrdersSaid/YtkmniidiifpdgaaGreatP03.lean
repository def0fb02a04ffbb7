/- Made by program: of our texts what this law needs (FH FI FJ BaseA PackM PackN PackP PackG PackH PackL KeepA MailA FrameP FrameQ FlowP FlowQ FlowR FlowS MsgP MsgQ MsgR MsgS SessP SessQ SessR SessS SessY LineP LineQ LineR ModA TopA). -/
import Derived.Test.YtkmniidiifpdgaaGreatP02
set_option linter.unusedVariables false
set_option maxRecDepth 20000
namespace Go.Proofs.YtkmniidiifpdgaaGreat
open Go.Eng
def a24:Ann:=mkA 2 [(12,1),(22,1)] 0 (bc [(1,ZAq)])
def n24:An:=(s0 (s0 (sq (s0 (cn (s0 lf) lf)) (s0 (sq (s0 (bk (.loop [(15,false,cI .i64)] 1073709056 (s0 (sq (cn lf lf) (sq (bk (.reg [(0,[]),(1,[]),(2,[]),(3,[]),(5,[]),(6,[]),(4,[]),(7,[4]),(8,[]),(9,[]),(10,[]),(11,[]),(12,[])])) r0)))))) (s0 lf))))))
def F24 (p0:ZEl) (h:Hp) (Q:Option Addr->Hp->Prop):Prop:=ZA TP 8 [.agg ⟨[.slice p0.Bonds.a p0.Bonds.len p0.Bonds.cap,.slice p0.Parties.a p0.Parties.len p0.Parties.cap,.int .i64 p0.Look,.int .i64 p0.Beat]⟩] cP h λ(p1:Option Addr) h1=>ZB p1.isNone (Q none h1) (ZM (Obj.cells ⟨[.pointer p1,.slice none 0 0]⟩ 152) h1 λk1 h2=>Zj 0 h2 λ(J1:Int->Hp->Prop) (n1:Int) h3=>ZB (decide (n1<(↑p0.Parties.len:Int))) (ZC cSl ⟨k1,0+1,none⟩ h3 λ(s1:Sl)=>ZA TP 60 [.int .i64 p0.Beat] cP h3 λ(p2:Option Addr) h4=>(h4.rds ⟨k1,0+1,none⟩ [.slice s1.a s1.len s1.cap]/\True)/\ZM (Obj.cells ⟨[.pointer p2]⟩ 153) h4 λk2 h5=>ZX cP 153 8 s1.a s1.len s1.cap (some ⟨k2,0,none⟩) 1 h5 λ(p3:Option Addr) (k3 k4:Nat) h6=>ZV cSl ⟨k1,0+1,none⟩ ⟨p3,k3,k4⟩ h6 λh7=>J1 (IntKind.i64.wrap (n1+1)) h7) (Q (some ⟨k1,0,none⟩) h3))
theorem c24 {p0 h Q} (hk:F24 p0 h Q):ZA TP 24 [ZAq.enc p0] (cP) h Q:=cc a24 n24 hk
def a25:Ann:=mkA 8 [(9,3),(16,3),(21,3),(28,3),(35,3),(45,3)] 0 (bc [(3,ZFB)])
def n25:An:=(s0 (sq (bk (s0 (cn (s0 lf) (s0 (cn (s0 (s0 lf)) (s0 (cn (s0 lf) (s0 (cn (s0 (s0 lf)) (s0 (cn (sq (sq (rg [0,1,2,4,5,3,6,7,8]) (cn (rg [0,1,2,3,5,6,4,7,8]) lf)) (s0 lf)) lf))))))))))) (s0 lf)))
def F25 (p0:Option Addr) (p1:Act) (h:Hp) (Q:Bool->Hp->Prop):Prop:=ZB p0.isNone (Q false h) (ZB (p1.Kind==2) (ZA TP 61 [.pointer p0] (ZW []) h λu1 h1=>Q true h1) (ZA TP 62 [.pointer p0,.int .i64 p1.Who] cB h λ(t1:Bool) h2=>ZB (!t1) (Q false h2) (ZB (p1.Kind==1) (ZA TP 63 [.pointer p0,.agg ⟨[.int .i64 p1.Kind,.int .i64 p1.Who,.slice p1.B.a p1.B.len p1.B.cap]⟩] (ZW []) h2 λu2 h3=>Q true h3) (ZB (p1.Kind==3) (ZR p0 λa1=>ZC cSl ⟨a1.block,a1.off+1,none⟩ h2 λ(s1:Sl)=>Zl s1.a s1.len p1.Who λa2=>ZC cP (a2.add (p1.Who.toNat*1)) h2 λ(p1_1:Option Addr)=>ZA TP 64 [.pointer p1_1] cB h2 λ(t2:Bool) h4=>ZB t2 (ZR p0 λa3=>ZC cP (a3.add 0) h4 λ(p2:Option Addr)=>ZA TP 51 [.pointer p2,.int .i64 p1.Who] cSl h4 λ(s2:Sl) h5=>ZA TP 65 [.pointer p0,.slice s2.a s2.len s2.cap] (ZW []) h5 λu3 h6=>Q true h6) (Q true h4)) (Q false h2)))))
theorem c25 {p0 p1 h Q} (hk:F25 p0 p1 h Q):ZA TP 25 [.pointer p0,ZFB.enc p1] (cB) h Q:=cc a25 n25 hk
def a26:Ann:=mkA 0 [] 0 (bc [])
def a27:Ann:=mkA 0 [] 0 (bc [])
def n27:An:=(s0 (sq (s0 (cn (s0 lf) lf)) (s0 lf)))
def F27 (p0:Option Addr) (h:Hp) (Q:Option Addr->Hp->Prop):Prop:=ZB p0.isNone (Q none h) (ZR p0 λa1=>ZC cP (a1.add 0) h λ(p1:Option Addr)=>Q p1 h)
theorem c27 {p0 h Q} (hk:F27 p0 h Q):ZA TP 27 [.pointer p0] (cP) h Q:=cc a27 n27 hk
def a61:Ann:=mkA 0 [] 0 (bc [])
def n61:An:=(s0 (s0 (bk (.loop [(16,false,cI .i64)] 4294901772 (s0 (sq (cn lf lf) (sq (.blockJ [] 2147221516 (s0 (s0 (cn r0 lf)))) r0)))))))
def F61 (p0:Option Addr) (h:Hp) (Q:Unit->Hp->Prop):Prop:=ZR p0 λa1=>ZC cP (a1.add 0) h λ(p1:Option Addr)=>ZA TP 50 [.pointer p1] cSl h λ(s1:Sl) h1=>ZA TP 65 [.pointer p0,.slice s1.a s1.len s1.cap] (ZW []) h1 λu1 h2=>ZR p0 λa2=>ZC cSl ⟨a2.block,a2.off+1,none⟩ h2 λ(s2:Sl)=>Zj 0 h2 λ(J1:Int->Hp->Prop) (n1:Int) h3=>ZB (decide (n1<(↑s2.len:Int))) (ZY (λu2 h4=>J1 (IntKind.i64.wrap (n1+1)) h4) λ(J2:PUnit->Hp->Prop)=>Zl s2.a s2.len n1 λa3=>ZC cP (a3.add (n1.toNat*1)) h3 λ(p2:Option Addr)=>ZA TP 107 [.pointer p2] cB h3 λ(t1:Bool) h5=>ZB t1 (ZR p0 λa4=>ZC cP (a4.add 0) h5 λ(p3:Option Addr)=>ZA TP 51 [.pointer p3,.int .i64 n1] cSl h5 λ(s3:Sl) h6=>ZA TP 65 [.pointer p0,.slice s3.a s3.len s3.cap] (ZW []) h6 λu3 h7=>J2 PUnit.unit h7) (J2 PUnit.unit h5)) (Q PUnit.unit h3)
theorem c61 {p0 h Q} (hk:F61 p0 h Q):ZA TP 61 [.pointer p0] (ZW []) h Q:=cc a61 n61 hk
def a62:Ann:=mkA 0 [] 0 (bc [])
def n62:An:=(s0 (s0 lf))
def F62 (p0:Option Addr) (p1:Int) (h:Hp) (Q:Bool->Hp->Prop):Prop:=ZB (!p0.isNone) (ZB (decide (p1>=0)) (ZR p0 λa1=>ZC cSl ⟨a1.block,a1.off+1,none⟩ h λ(s1:Sl)=>Q (decide (p1<(↑s1.len:Int))) h) (Q false h)) (Q false h)
theorem c62 {p0 p1 h Q} (hk:F62 p0 p1 h Q):ZA TP 62 [.pointer p0,.int .i64 p1] (cB) h Q:=cc a62 n62 hk
def a63:Ann:=mkA 520 [(14,3),(20,3),(38,3),(40,9),(42,9),(61,3)] 0 (bc [(3,ZFB),(9,ZQ)])
def n63:An:=(s0 (sq (rg [0,1,2,4,5,3,6,7,8]) (s0 (s0 (sq (s0 (bk (.loop [(29,false,cI .i64)] 140736951484928 (s0 (sq (cn lf lf) (sq (bk (s0 (rg [0,1,2,3,5,6,7,8,9,10,4,11,12]))) r0)))))) (.join [(55,false,cB)] 71916856549572608 r0 (cn (rg [0,1,2,3,5,6,4,7,8]) lf)))))))
def F63 (p0:Option Addr) (p1:Act) (h:Hp) (Q:Unit->Hp->Prop):Prop:=ZR p0 λa1=>ZC cSl ⟨a1.block,a1.off+1,none⟩ h λ(s1:Sl)=>Zl s1.a s1.len p1.Who λa2=>ZC cP (a2.add (p1.Who.toNat*1)) h λ(p1_1:Option Addr)=>ZA TP 108 [.pointer p1_1,.slice p1.B.a p1.B.len p1.B.cap] (ZW [cSl,cB]) h λ(z1:Sl×Bool) h1=>ZA TP 66 [.pointer p1_1] cB h1 λ(t1:Bool) h2=>Zj 0 h2 λ(J1:Int->Hp->Prop) (n1:Int) h3=>ZB (decide (n1<(↑z1.fst.len:Int))) (Zl z1.fst.a z1.fst.len n1 λa3=>ZC ZQ (a3.add (n1.toNat*8)) h3 λ(x1:ZP)=>ZR p0 λa4=>ZC cP (a4.add 0) h3 λ(p2:Option Addr)=>ZA TP 49 [.pointer p2,.int .i64 p1.Who,.int .i64 x1.Seq,.agg ⟨[.int .i64 x1.Msg_Kind,.int .i64 x1.Msg_F_0,.int .i64 x1.Msg_F_1,.int .i64 x1.Msg_F_2,.int .i64 x1.Msg_F_3,.int .i64 x1.Msg_F_4,.int .i64 x1.Msg_F_5]⟩] cSl h3 λ(s2:Sl) h4=>ZA TP 65 [.pointer p0,.slice s2.a s2.len s2.cap] (ZW []) h4 λu1 h5=>J1 (IntKind.i64.wrap (n1+1)) h5) (ZY (λ(t2:Bool) h6=>ZB t2 (ZR p0 λa5=>ZC cP (a5.add 0) h6 λ(p3:Option Addr)=>ZA TP 51 [.pointer p3,.int .i64 p1.Who] cSl h6 λ(s3:Sl) h7=>ZA TP 65 [.pointer p0,.slice s3.a s3.len s3.cap] (ZW []) h7 λu2 h8=>Q PUnit.unit h8) (Q PUnit.unit h6)) λ(J2:Bool->Hp->Prop)=>ZB z1.snd (J2 true h3) (ZB t1 (ZA TP 66 [.pointer p1_1] cB h3 λ(t3:Bool) h9=>J2 (!t3) h9) (J2 false h3)))
theorem c63 {p0 p1 h Q} (hk:F63 p0 p1 h Q):ZA TP 63 [.pointer p0,ZFB.enc p1] (ZW []) h Q:=cc a63 n63 hk
def a65:Ann:=mkA 0 [] 0 (bc [])
def n65:An:=(s0 (s0 (bk (.loop [(4,false,cSl),(5,false,cB)] 144115188075841520 (sq (s0 (cn lf lf)) (bk (s0 (s0 (s0 (s0 (bk (.loop [(5,false,cB),(24,false,cI .i64)] 144115188059080608 (s0 (sq (cn lf lf) (sq (.blockJ [(5,false,cB)] 72057593970821024 (s0 (sq (s0 (cn lf lf)) (s0 (s0 (bk (.loop [(40,false,cI .i64)] 72056494526301696 (s0 (sq (cn lf lf) (sq (.blockJ [] 36024398972454400 (s0 r0)) r0)))))))))) r0)))))))))))))))
def F65 (p0:Option Addr) (p1:Sl) (h:Hp) (Q:Unit->Hp->Prop):Prop:=ZA TP 110 [.pointer p0,.slice p1.a p1.len p1.cap] cSl h λ(s1:Sl) h1=>Zj (s1,true) h1 λ(J1:Sl×Bool->Hp->Prop) (z1:Sl×Bool) h2=>ZB z1.snd (ZR p0 λa1=>ZC cSl ⟨a1.block,a1.off+1,none⟩ h2 λ(s2:Sl)=>ZEG (↑s2.len:Int) (↑s2.len:Int) 1 (ZM (Obj.cells {toList:=Z3 (↑s2.len:Int).toNat [.bool false]:Array Value} 4) h2 λk1 h3=>Zj (false,0) h3 λ(J2:Bool×Int->Hp->Prop) (z2:Bool×Int) h4=>ZB (decide (z2.snd<(↑z1.fst.len:Int))) (ZY (λ(t1:Bool) h5=>J2 (t1,IntKind.i64.wrap (z2.snd+1)) h5) λ(J3:Bool->Hp->Prop)=>Zl z1.fst.a z1.fst.len z2.snd λa2=>ZC cB (a2.add (z2.snd.toNat*1)) h4 λ(t2:Bool)=>ZB (!t2) (J3 z2.fst h4) (ZR p0 λa3=>ZC cP (a3.add 0) h4 λ(p1:Option Addr)=>ZA TP 51 [.pointer p1,.int .i64 z2.snd] cSl h4 λ(s3:Sl) h6=>ZA TP 110 [.pointer p0,.slice s3.a s3.len s3.cap] cSl h6 λ(s4:Sl) h7=>Zj 0 h7 λ(J4:Int->Hp->Prop) (n1:Int) h8=>ZB (decide (n1<(↑s4.len:Int))) (ZY (λu1 h9=>J4 (IntKind.i64.wrap (n1+1)) h9) λ(J5:PUnit->Hp->Prop)=>Zl s4.a s4.len n1 λa4=>ZC cB (a4.add (n1.toNat*1)) h8 λ(t3:Bool)=>Zl (some ⟨k1,0,none⟩) (↑s2.len:Int).toNat n1 λa5=>ZC cB (a5.add (n1.toNat*1)) h8 λ(t4:Bool)=>ZB t4 (Zl (some ⟨k1,0,none⟩) (↑s2.len:Int).toNat n1 λa6=>ZV cB (a6.add (n1.toNat*1)) true h8 λh10=>J5 PUnit.unit h10) (Zl (some ⟨k1,0,none⟩) (↑s2.len:Int).toNat n1 λa7=>ZV cB (a7.add (n1.toNat*1)) t3 h8 λh11=>J5 PUnit.unit h11)) (J3 true h8))) (J1 (⟨some ⟨k1,0,none⟩,(↑s2.len:Int).toNat,(↑s2.len:Int).toNat⟩,z2.fst) h4))) (Q PUnit.unit h2)
theorem c65 {p0 p1 h Q} (hk:F65 p0 p1 h Q):ZA TP 65 [.pointer p0,.slice p1.a p1.len p1.cap] (ZW []) h Q:=cc a65 n65 hk
def a70:Ann:=mkA 0 [] 0 (bc [])
def n70:An:=(s0 (sq (s0 (cn (s0 lf) lf)) (s0 lf)))
def F70 (p0:Option Addr) (p1:Int) (h:Hp) (Q:Sl->Hp->Prop):Prop:=ZA TP 62 [.pointer p0,.int .i64 p1] cB h λ(t1:Bool) h1=>ZB (!t1) (Q ⟨none,0,0⟩ h1) (ZR p0 λa1=>ZC cSl ⟨a1.block,a1.off+1,none⟩ h1 λ(s1:Sl)=>Zl s1.a s1.len p1 λa2=>ZC cP (a2.add (p1.toNat*1)) h1 λ(p1:Option Addr)=>ZA TP 114 [.pointer p1] cSl h1 λ(s2:Sl) h2=>Q s2 h2)
theorem c70 {p0 p1 h Q} (hk:F70 p0 p1 h Q):ZA TP 70 [.pointer p0,.int .i64 p1] (cSl) h Q:=cc a70 n70 hk
def a110:Ann:=mkA 128 [(23,7),(31,7),(38,7),(42,7),(45,7)] 0 (bc [(7,ZCJ)])
def n110:An:=(s0 (s0 (sq (s0 (bk (.loop [(18,false,cI .i64)] 576460752303162240 (s0 (sq (cn lf lf) (sq (.blockJ [] 288230376150664064 (s0 (sq (s0 (cn lf lf)) (sq (rg [0,1,2,4,5,3,6,7,8]) (s0 (s0 (rg [0,1,2,3,4,5,6,7,8,9,10,11,12,13,14,15,16,17]))))))) r0)))))) (s0 lf))))
def F110 (p0:Option Addr) (p1:Sl) (h:Hp) (Q:Sl->Hp->Prop):Prop:=ZR p0 λa1=>ZC cSl ⟨a1.block,a1.off+1,none⟩ h λ(s1:Sl)=>ZEG (↑s1.len:Int) (↑s1.len:Int) 1 (ZM (Obj.cells {toList:=Z3 (↑s1.len:Int).toNat [.bool false]:Array Value} 4) h λk1 h1=>Zj 0 h1 λ(J1:Int->Hp->Prop) (n1:Int) h2=>ZB (decide (n1<(↑p1.len:Int))) (ZY (λu1 h3=>J1 (IntKind.i64.wrap (n1+1)) h3) λ(J2:PUnit->Hp->Prop)=>Zl p1.a p1.len n1 λa2=>ZC ZCJ (a2.add (n1.toNat*8)) h2 λ(x1:Out)=>ZA TP 62 [.pointer p0,.int .i64 x1.To] cB h2 λ(t1:Bool) h4=>ZB (!t1) (J2 PUnit.unit h4) (ZR p0 λa3=>ZC cSl ⟨a3.block,a3.off+1,none⟩ h4 λ(s2:Sl)=>Zl s2.a s2.len x1.To λa4=>ZC cP (a4.add (x1.To.toNat*1)) h4 λ(p1:Option Addr)=>ZA TP 66 [.pointer p1] cB h4 λ(t2:Bool) h5=>ZA TP 185 [.pointer p1,.agg ⟨[.int .i64 x1.Msg_Kind,.int .i64 x1.Msg_F_0,.int .i64 x1.Msg_F_1,.int .i64 x1.Msg_F_2,.int .i64 x1.Msg_F_3,.int .i64 x1.Msg_F_4,.int .i64 x1.Msg_F_5]⟩] cB h5 λ(t3:Bool) h6=>Zl (some ⟨k1,0,none⟩) (↑s1.len:Int).toNat x1.To λa5=>ZC cB (a5.add (x1.To.toNat*1)) h6 λ(t4:Bool)=>ZB t4 (Zl (some ⟨k1,0,none⟩) (↑s1.len:Int).toNat x1.To λa6=>ZV cB (a6.add (x1.To.toNat*1)) true h6 λh7=>J2 PUnit.unit h7) (ZB t2 (ZA TP 66 [.pointer p1] cB h6 λ(t5:Bool) h8=>Zl (some ⟨k1,0,none⟩) (↑s1.len:Int).toNat x1.To λa7=>ZV cB (a7.add (x1.To.toNat*1)) (!t5) h8 λh9=>J2 PUnit.unit h9) (Zl (some ⟨k1,0,none⟩) (↑s1.len:Int).toNat x1.To λa8=>ZV cB (a8.add (x1.To.toNat*1)) false h6 λh10=>J2 PUnit.unit h10)))) (Q ⟨some ⟨k1,0,none⟩,(↑s1.len:Int).toNat,(↑s1.len:Int).toNat⟩ h2))
theorem c110 {p0 p1 h Q} (hk:F110 p0 p1 h Q):ZA TP 110 [.pointer p0,.slice p1.a p1.len p1.cap] (cSl) h Q:=cc a110 n110 hk
def a31:Ann:=mkA 1300 [(19,2),(60,10),(65,10),(66,10),(72,10)] 0 (bc [(2,ZAq),(4,ZA5),(8,ZFB),(10,ZA5)])
def n31:An:=(s0 (s0 (sq (s0 (cn (s0 lf) lf)) (s0 (sq (s0 (bk (.loop [(25,false,cI .i64)] 1125899873288960 (s0 (sq (cn lf lf) (sq (bk (s0 (s0 (s0 (bk (.loop [(34,false,cI .i64)] 562932773552640 (s0 (sq (cn lf lf) (sq (bk (s0 (.reg [(0,[]),(1,[]),(2,[]),(3,[]),(4,[]),(6,[]),(7,[]),(5,[]),(8,[5]),(9,[]),(10,[]),(11,[])]))) r0))))))))) r0)))))) (s0 (sq (s0 (bk (.loop [(10,true,ZA5),(54,false,cI .i64)] 18889447917080071386112 (s0 (sq (cn lf lf) (sq (bk (s0 (s0 (s0 (rg [0,1,2,3,4,5,6,7]))))) r0)))))) (s0 lf))))))))
def F31 (p0:ZEl) (p1:Sl) (h:Hp) (Q:ZBz->Hp->Prop):Prop:=ZA TP 24 [.agg ⟨[.slice p0.Bonds.a p0.Bonds.len p0.Bonds.cap,.slice p0.Parties.a p0.Parties.len p0.Parties.cap,.int .i64 p0.Look,.int .i64 p0.Beat]⟩] cP h λ(p1_1:Option Addr) h1=>ZB p1_1.isNone (Q {Sent:=⟨none,0,0⟩,Taken:=⟨none,0,0⟩,Venue:=none:ZBz} h1) (ZEG (↑p0.Parties.len:Int) (↑p0.Parties.len:Int) 24 (ZM (Obj.cells {toList:=Z3 (↑p0.Parties.len:Int).toNat [.slice none 0 0]:Array Value} 163) h1 λk1 h2=>Zj 0 h2 λ(J1:Int->Hp->Prop) (n1:Int) h3=>ZB (decide (n1<(↑p1.len:Int))) (Zl p1.a p1.len n1 λa1=>ZC ZFB (a1.add (n1.toNat*3)) h3 λ(x1:Act)=>ZA TP 25 [.pointer p1_1,.agg ⟨[.int .i64 x1.Kind,.int .i64 x1.Who,.slice x1.B.a x1.B.len x1.B.cap]⟩] cB h3 λ(t1:Bool) h4=>Zj 0 h4 λ(J2:Int->Hp->Prop) (n2:Int) h5=>ZB (decide (n2<(↑(↑p0.Parties.len:Int).toNat:Int))) (Zl (some ⟨k1,0,none⟩) (↑p0.Parties.len:Int).toNat n2 λa2=>ZC cSl (a2.add (n2.toNat*1)) h5 λ(s1:Sl)=>ZA TP 70 [.pointer p1_1,.int .i64 n2] cSl h5 λ(s2:Sl) h6=>(h6.rds (a2.add (n2.toNat*1)) [.slice s1.a s1.len s1.cap]/\True)/\ZX cSl 85 24 s1.a s1.len s1.cap s2.a s2.len h6 λ(p2:Option Addr) (k2 k3:Nat) h7=>Zl (some ⟨k1,0,none⟩) (↑p0.Parties.len:Int).toNat n2 λa3=>ZV cSl (a3.add (n2.toNat*1)) ⟨p2,k2,k3⟩ h7 λh8=>J2 (IntKind.i64.wrap (n2+1)) h8) (J1 (IntKind.i64.wrap (n1+1)) h5)) (Zj ({Sent:=⟨none,0,0⟩,Taken:=⟨none,0,0⟩,Venue:=p1_1:ZBz},0) h3 λ(J3:ZBz×Int->Hp->Prop) (z1:ZBz×Int) h9=>ZB (decide (z1.snd<(↑(↑p0.Parties.len:Int).toNat:Int))) (Zl (some ⟨k1,0,none⟩) (↑p0.Parties.len:Int).toNat z1.snd λa4=>ZC cSl (a4.add (z1.snd.toNat*1)) h9 λ(s3:Sl)=>ZA TP 71 [.slice s3.a s3.len s3.cap] cSl h9 λ(s4:Sl) h10=>ZM (Obj.cells ⟨[.slice s4.a s4.len s4.cap]⟩ 165) h10 λk4 h11=>ZX cSl 165 24 z1.fst.Sent.a z1.fst.Sent.len z1.fst.Sent.cap (some ⟨k4,0,none⟩) 1 h11 λ(p3:Option Addr) (k5 k6:Nat) h12=>ZA TP 72 [.slice s4.a s4.len s4.cap] cSl h12 λ(s5:Sl) h13=>ZM (Obj.cells ⟨[.slice s5.a s5.len s5.cap]⟩ 144) h13 λk7 h14=>ZX cSl 144 24 z1.fst.Taken.a z1.fst.Taken.len z1.fst.Taken.cap (some ⟨k7,0,none⟩) 1 h14 λ(p4:Option Addr) (k8 k9:Nat) h15=>J3 ({Sent:=⟨p3,k5,k6⟩,Taken:=⟨p4,k8,k9⟩,Venue:=z1.fst.Venue:ZBz},IntKind.i64.wrap (z1.snd+1)) h15) (Q z1.fst h9))))
theorem c31 {p0 p1 h Q} (hk:F31 p0 p1 h Q):ZA TP 31 [ZAq.enc p0,.slice p1.a p1.len p1.cap] (ZA5) h Q:=cc a31 n31 hk
def a71:Ann:=mkA 512 [] 0 (bc [(9,ZQ)])
def n71:An:=(s0 (s0 (s0 (sq (s0 (bk (.loop [(3,false,cSl),(14,false,cI .i64)] 549755799368 (s0 (sq (cn lf lf) (sq (bk (s0 (s0 (bk (.loop [(3,false,cSl),(22,false,cI .i64)] 274873714440 (s0 (sq (cn lf lf) (sq (.blockJ [(3,false,cSl)] 137422178056 (s0 (s0 (s0 (cn r0 lf))))) r0)))))))) r0)))))) (s0 lf)))))
def F71 (p0:Sl) (h:Hp) (Q:Sl->Hp->Prop):Prop:=ZA TP 105 [] cP h λ(p1:Option Addr) h1=>Zj ({a:=none,len:=0,cap:=0:Sl},0) h1 λ(J1:Sl×Int->Hp->Prop) (z1:Sl×Int) h2=>ZB (decide (z1.snd<(↑p0.len:Int))) (Zl p0.a p0.len z1.snd λa1=>ZC cSl (a1.add (z1.snd.toNat*1)) h2 λ(s1:Sl)=>ZA TP 115 [.pointer p1,.slice s1.a s1.len s1.cap] cSl h2 λ(s2:Sl) h3=>Zj (z1.fst,0) h3 λ(J2:Sl×Int->Hp->Prop) (z2:Sl×Int) h4=>ZB (decide (z2.snd<(↑s2.len:Int))) (ZY (λ(s3:Sl) h5=>J2 (s3,IntKind.i64.wrap (z2.snd+1)) h5) λ(J3:Sl->Hp->Prop)=>Zl s2.a s2.len z2.snd λa2=>ZC cSl (a2.add (z2.snd.toNat*1)) h4 λ(s4:Sl)=>ZA TP 116 [.slice s4.a s4.len s4.cap] (ZW [ZQ,cI IntKind.i64]) h4 λ(z3:ZP×Int) h6=>ZB (z3.snd==0) (ZM (Obj.cells ⟨[.int .i64 z3.fst.Seq,.int .i64 z3.fst.Msg_Kind,.int .i64 z3.fst.Msg_F_0,.int .i64 z3.fst.Msg_F_1,.int .i64 z3.fst.Msg_F_2,.int .i64 z3.fst.Msg_F_3,.int .i64 z3.fst.Msg_F_4,.int .i64 z3.fst.Msg_F_5]⟩ 161) h6 λk1 h7=>ZX ZQ 161 64 z2.fst.a z2.fst.len z2.fst.cap (some ⟨k1,0,none⟩) 1 h7 λ(p2:Option Addr) (k2 k3:Nat) h8=>J3 ⟨p2,k2,k3⟩ h8) (J3 z2.fst h6)) (J1 (z2.fst,IntKind.i64.wrap (z1.snd+1)) h4)) (Q z1.fst h2)
theorem c71 {p0 h Q} (hk:F71 p0 h Q):ZA TP 71 [.slice p0.a p0.len p0.cap] (cSl) h Q:=cc a71 n71 hk
def a72:Ann:=mkA 64 [(14,6),(19,6),(24,6),(26,6),(33,6)] 0 (bc [(6,ZQ)])
def n72:An:=(s0 (s0 (s0 (sq (s0 (.blockJ [(3,false,cSl)] 274877905992 (.loop [(3,false,cSl),(10,false,cI .i64)] 274877905992 (s0 (sq (cn lf lf) (sq (.blockJ [(3,false,cSl)] 137438949448 (s0 (sq (.join [(22,false,cB)] 8372224 r0 (cn lf lf)) (s0 (sq (s0 (cn lf lf)) r0))))) r0)))))) (s0 lf)))))
def F72 (p0:Sl) (h:Hp) (Q:Sl->Hp->Prop):Prop:=ZM (Obj.map {toList:=[]:Array MapEntry} 0) h λk1 h1=>ZY (λ(s1:Sl) h2=>Q s1 h2) λ(J1:Sl->Hp->Prop)=>Zj ({a:=none,len:=0,cap:=0:Sl},0) h1 λ(J2:Sl×Int->Hp->Prop) (z1:Sl×Int) h3=>ZB (decide (z1.snd<(↑p0.len:Int))) (ZY (λ(s2:Sl) h4=>J2 (s2,IntKind.i64.wrap (z1.snd+1)) h4) λ(J3:Sl->Hp->Prop)=>Zl p0.a p0.len z1.snd λa1=>ZC ZQ (a1.add (z1.snd.toNat*8)) h3 λ(x1:ZP)=>ZY (λ(t1:Bool) h5=>ZB t1 (J3 z1.fst h5) (ZY5 cB IntKind.i64 (some k1) x1.Seq true h5 λh6=>ZB (x1.Seq != IntKind.i64.wrap ((↑z1.fst.len:Int)+1)) (J1 z1.fst h6) (ZM (Obj.cells ⟨[.int .i64 x1.Msg_Kind,.int .i64 x1.Msg_F_0,.int .i64 x1.Msg_F_1,.int .i64 x1.Msg_F_2,.int .i64 x1.Msg_F_3,.int .i64 x1.Msg_F_4,.int .i64 x1.Msg_F_5]⟩ 59) h6 λk2 h7=>ZX ZAn 59 56 z1.fst.a z1.fst.len z1.fst.cap (some ⟨k2,0,none⟩) 1 h7 λ(p1:Option Addr) (k3 k4:Nat) h8=>J3 ⟨p1,k3,k4⟩ h8))) λ(J4:Bool->Hp->Prop)=>ZB (x1.Seq==0) (J4 true h3) (ZVs cB IntKind.i64 (some k1) x1.Seq false h3 λ(t2:Bool)=>J4 t2 h3)) (J1 z1.fst h3)
theorem c72 {p0 h Q} (hk:F72 p0 h Q):ZA TP 72 [.slice p0.a p0.len p0.cap] (cSl) h Q:=cc a72 n72 hk
def a9:Ann:=mkA 60 [(24,5),(25,5),(31,5),(32,5),(35,5),(41,5)] 0 (bc [(2,ZAq),(3,ZAB),(4,ZAB),(5,ZAq)])
def n9:An:=(s0 (s0 (s0 (s0 (sq (s0 (.blockJ [(5,true,ZAq)] 4398045462560 (s0 (cn (s0 r0) (s0 (cn (s0 r0) (s0 (cn r0 lf)))))))) (s0 lf))))))
def F9 (p0:Int) (h:Hp) (Q:ZEl->Hp->Prop):Prop:=ZM (Obj.cells ⟨[.int .i64 5,.int .i64 10,.int .i64 10,.int .i64 100,.int .i64 5,.int .i64 500,.bool false,.int .i64 1,.int .i64 1,.int .i64 1,.int .i64 1000,.int .i64 1,.int .i64 1000,.bool false]⟩ 105) h λk1 h1=>ZM (Obj.cells ⟨[.int .i64 1,.int .u64 12,.int .i64 0,.int .i64 1,.int .u64 4,.int .i64 0,.int .i64 2,.int .u64 0,.int .i64 100000,.int .i64 2,.int .u64 0,.int .i64 3000,.int .i64 3,.int .u64 0,.int .i64 0]⟩ 108) h1 λk2 h2=>ZY (λ(x1:ZEl) h3=>Q x1 h3) λ(J1:ZEl->Hp->Prop)=>ZB (ZDH IntKind.i64 p0 (3:Int)==1) (ZM (Obj.cells ⟨[.int .i64 1,.int .i64 1,.int .i64 1,.int .i64 1000,.int .i64 1,.int .i64 1000,.bool false]⟩ 105) h2 λk3 h4=>J1 {Bonds:=⟨some ⟨k3,0,none⟩,1,1⟩,Parties:=⟨some ⟨k2,0,none⟩,5,5⟩,Look:=1,Beat:=50:ZEl} h4) (ZB (ZDH IntKind.i64 p0 (3:Int)==2) (ZM (Obj.cells ⟨[.int .i64 1,.int .i64 1,.int .i64 1,.int .i64 1000,.int .i64 1,.int .i64 1000,.bool false,.int .i64 5,.int .i64 10,.int .i64 10,.int .i64 100,.int .i64 5,.int .i64 500,.bool false]⟩ 105) h2 λk4 h5=>J1 {Bonds:=⟨some ⟨k4,0,none⟩,2,2⟩,Parties:=⟨some ⟨k2,0,none⟩,5,5⟩,Look:=3,Beat:=4:ZEl} h5) (ZB (ZDH IntKind.i64 p0 (3:Int)==3) (ZM (Obj.cells ⟨[.int .i64 1,.int .u64 12,.int .i64 0,.int .i64 2,.int .u64 0,.int .i64 0]⟩ 108) h2 λk5 h6=>ZX Z2 108 24 (some ⟨k2,0,none⟩) 5 5 (some ⟨k5,0,none⟩) 2 h6 λ(p1:Option Addr) (k6 k7:Nat) h7=>J1 {Bonds:=⟨some ⟨k1,0,none⟩,2,2⟩,Parties:=⟨p1,k6,k7⟩,Look:=3,Beat:=50:ZEl} h7) (J1 {Bonds:=⟨some ⟨k1,0,none⟩,2,2⟩,Parties:=⟨some ⟨k2,0,none⟩,5,5⟩,Look:=3,Beat:=50:ZEl} h2)))
theorem c9 {p0 h Q} (hk:F9 p0 h Q):ZA TP 9 [.int .i64 p0] (ZAq) h Q:=cc a9 n9 hk
def a14:Ann:=mkA 8 [(7,3),(12,3),(14,3),(16,3),(26,3),(30,3)] 0 (bc [(3,ZBe)])
def n14:An:=(s0 (sq (s0 (bk (s0 (cn (s0 lf) (s0 (cn (s0 lf) (s0 (cn (s0 lf) lf)))))))) (s0 (sq (s0 (bk (.loop [(5,false,cSl),(6,false,cI .i64)] 8795556151392 (sq (.join [(36,false,cB)] 136902082560 r0 (cn lf lf)) (sq (bk r0) r0))))) (s0 lf)))))
def F14 (p0:Option Addr) (p1:ZEF) (h:Hp) (Q:Sl->Hp->Prop):Prop:=ZB (p1.Kind==1) (ZA TP 49 [.pointer p0,.int .i64 p1.Who,.int .i64 p1.N,.agg ⟨[.int .i64 p1.Msg_Kind,.int .i64 p1.Msg_F_0,.int .i64 p1.Msg_F_1,.int .i64 p1.Msg_F_2,.int .i64 p1.Msg_F_3,.int .i64 p1.Msg_F_4,.int .i64 p1.Msg_F_5]⟩] cSl h λ(s1:Sl) h1=>Q s1 h1) (ZB (p1.Kind==2) (ZA TP 50 [.pointer p0] cSl h λ(s2:Sl) h2=>Q s2 h2) (ZB (p1.Kind==3) (ZA TP 51 [.pointer p0,.int .i64 p1.Who] cSl h λ(s3:Sl) h3=>Q s3 h3) (Zj ({a:=none,len:=0,cap:=0:Sl},0) h λ(J1:Sl×Int->Hp->Prop) (z1:Sl×Int) h4=>ZY (λ(t1:Bool) h5=>ZB t1 (ZA TP 50 [.pointer p0] cSl h5 λ(s4:Sl) h6=>ZX ZCJ 78 64 z1.fst.a z1.fst.len z1.fst.cap s4.a s4.len h6 λ(p1:Option Addr) (k1 k2:Nat) h7=>J1 (⟨p1,k1,k2⟩,IntKind.i64.wrap (z1.snd+1)) h7) (Q z1.fst h5)) λ(J2:Bool->Hp->Prop)=>ZB (decide (z1.snd<p1.N)) (J2 (decide (z1.snd<40)) h4) (J2 false h4))))
theorem c14 {p0 p1 h Q} (hk:F14 p0 p1 h Q):ZA TP 14 [.pointer p0,ZBe.enc p1] (cSl) h Q:=cc a14 n14 hk
def a18:Ann:=mkA 2 [(6,1),(11,1),(15,1),(37,1)] 0 (bc [(1,ZA5)])
def n18:An:=(s0 (s0 (sq (.join [(14,false,cB)] 32704 r0 (cn (s0 lf) lf)) (s0 (s0 lf)))))
def F18  (h:Hp) (Q:Bool->Hp->Prop):Prop:=ZA TP 9 [.int .i64 0] ZAq h λ(x1:ZEl) h1=>ZA TP 55 [.slice none 0 0] cSl h1 λ(s1:Sl) h2=>ZA TP 31 [.agg ⟨[.slice x1.Bonds.a x1.Bonds.len x1.Bonds.cap,.slice x1.Parties.a x1.Parties.len x1.Parties.cap,.int .i64 x1.Look,.int .i64 x1.Beat]⟩,.slice s1.a s1.len s1.cap] ZA5 h2 λ(x2:ZBz) h3=>ZY (λ(t1:Bool) h4=>ZB t1 (Q false h4) (ZA TP 27 [.pointer x2.Venue] cP h4 λ(p1:Option Addr) h5=>ZA TP 11 [.pointer p1] cSl h5 λ(s2:Sl) h6=>ZB ((↑s2.len:Int)==1) (Zl s2.a s2.len 0 λa1=>ZC (cI IntKind.i64) ⟨(a1.add 0).block,(a1.add 0).off+4,none⟩ h6 λ(n1:Int)=>ZB (n1==100) (Zl s2.a s2.len 0 λa2=>ZC (cI IntKind.i64) ⟨(a2.add 0).block,(a2.add 0).off+6,none⟩ h6 λ(n2:Int)=>ZB (n2==1) (Zl x2.Taken.a x2.Taken.len 0 λa3=>ZC cSl (a3.add 0) h6 λ(s3:Sl)=>Q ((↑s3.len:Int)==5) h6) (Q false h6)) (Q false h6)) (Q false h6))) λ(J1:Bool->Hp->Prop)=>ZB ((↑x2.Taken.len:Int) != 5) (J1 true h3) (J1 x2.Venue.isNone h3)
theorem c18  {h:Hp} {Q:Bool->Hp->Prop} (hk:F18  h Q):ZA TP 18 [] (cB) h Q:=cc a18 n18 hk
def a22:Ann:=mkA 0 [] 0 (bc [])
def n22:An:=(s0 (bk (.loop [(8,false,cI .i64)] 1073741568 (sq (s0 (cn lf lf)) (sq (.blockJ [] 1073709056 (s0 (cn r0 lf))) r0)))))
def F22 (p0:Sl) (p1:Sl) (p2:Int) (p3:Int) (h:Hp) (Q:Unit->Hp->Prop):Prop:=Zj 0 h λ(J1:Int->Hp->Prop) (n1:Int) h1=>ZB (decide (n1<(↑p0.len:Int))) (ZY (λu1 h2=>J1 (IntKind.i64.wrap (n1+1)) h2) λ(J2:PUnit->Hp->Prop)=>Zl p0.a p0.len n1 λa1=>ZC (cI IntKind.i64) (a1.add (n1.toNat*1)) h1 λ(n2:Int)=>ZB (n2==p2) (Zl p1.a p1.len n1 λa2=>ZC (cI IntKind.i64) (a2.add (n1.toNat*1)) h1 λ(n3:Int)=>Zl p1.a p1.len n1 λa3=>ZV (cI IntKind.i64) (a3.add (n1.toNat*1)) (IntKind.i64.wrap (n3-p3)) h1 λh3=>J2 PUnit.unit h3) (J2 PUnit.unit h1)) (Q PUnit.unit h1)
theorem c22 {p0 p1 p2 p3 h Q} (hk:F22 p0 p1 p2 p3 h Q):ZA TP 22 [.slice p0.a p0.len p0.cap,.slice p1.a p1.len p1.cap,.int .i64 p2,.int .i64 p3] (ZW []) h Q:=cc a22 n22 hk
def a29:Ann:=mkA 0 [] 0 (bc [])
def n29:An:=(s0 (s0 lf))
def F29 (p0:Int) (h:Hp) (Q:Sl->Hp->Prop):Prop:=ZM (Obj.cells ⟨[.int .i64 p0]⟩ 2) h λk1 h1=>ZA TP 69 [.int .i64 1,.slice (some ⟨k1,0,none⟩) 1 1] ZAn h1 λ(x1:Msg) h2=>ZM (Obj.cells ⟨[.int .i64 0,.int .i64 x1.Kind,.int .i64 x1.F_0,.int .i64 x1.F_1,.int .i64 x1.F_2,.int .i64 x1.F_3,.int .i64 x1.F_4,.int .i64 x1.F_5]⟩ 161) h2 λk2 h3=>ZA TP 68 [.slice (some ⟨k2,0,none⟩) 1 1] cSl h3 λ(s1:Sl) h4=>Q s1 h4
theorem c29 {p0 h Q} (hk:F29 p0 h Q):ZA TP 29 [.int .i64 p0] (cSl) h Q:=cc a29 n29 hk
def a30:Ann:=mkA 96 [] 0 (bc [(5,ZAn),(6,ZFB)])
def n30:An:=(s0 (s0 lf))
def F30 (p0:Int) (p1:Int) (p2:Msg) (h:Hp) (Q:Act->Hp->Prop):Prop:=ZM (Obj.cells ⟨[.int .i64 p1,.int .i64 p2.Kind,.int .i64 p2.F_0,.int .i64 p2.F_1,.int .i64 p2.F_2,.int .i64 p2.F_3,.int .i64 p2.F_4,.int .i64 p2.F_5]⟩ 161) h λk1 h1=>ZA TP 68 [.slice (some ⟨k1,0,none⟩) 1 1] cSl h1 λ(s1:Sl) h2=>Q {Kind:=1,Who:=p0,B:=s1:Act} h2
theorem c30 {p0 p1 p2 h Q} (hk:F30 p0 p1 p2 h Q):ZA TP 30 [.int .i64 p0,.int .i64 p1,ZAn.enc p2] (ZFB) h Q:=cc a30 n30 hk
def a55:Ann:=mkA 0 [] 0 (bc [])
def n55:An:=(s0 (s0 (s0 (s0 lf))))
def F55 (p0:Sl) (h:Hp) (Q:Sl->Hp->Prop):Prop:=ZA TP 29 [.int .i64 1] cSl h λ(s1:Sl) h1=>ZA TP 29 [.int .i64 1] cSl h1 λ(s2:Sl) h2=>ZM (Obj.cells ⟨[.int .i64 0,.int .i64 1,.int .i64 10,.int .i64 4,.int .i64 20]⟩ 2) h2 λk1 h3=>ZA TP 69 [.int .i64 9,.slice (some ⟨k1,0,none⟩) 5 5] ZAn h3 λ(x1:Msg) h4=>ZA TP 30 [.int .i64 0,.int .i64 1,.agg ⟨[.int .i64 x1.Kind,.int .i64 x1.F_0,.int .i64 x1.F_1,.int .i64 x1.F_2,.int .i64 x1.F_3,.int .i64 x1.F_4,.int .i64 x1.F_5]⟩] ZFB h4 λ(x2:Act) h5=>ZM (Obj.cells ⟨[.int .i64 1,.int .i64 100,.int .i64 10]⟩ 2) h5 λk2 h6=>ZA TP 69 [.int .i64 10,.slice (some ⟨k2,0,none⟩) 3 3] ZAn h6 λ(x3:Msg) h7=>ZA TP 30 [.int .i64 2,.int .i64 1,.agg ⟨[.int .i64 x3.Kind,.int .i64 x3.F_0,.int .i64 x3.F_1,.int .i64 x3.F_2,.int .i64 x3.F_3,.int .i64 x3.F_4,.int .i64 x3.F_5]⟩] ZFB h7 λ(x4:Act) h8=>ZM (Obj.cells ⟨[.int .i64 1]⟩ 2) h8 λk3 h9=>ZA TP 69 [.int .i64 12,.slice (some ⟨k3,0,none⟩) 1 1] ZAn h9 λ(x5:Msg) h10=>ZA TP 30 [.int .i64 0,.int .i64 2,.agg ⟨[.int .i64 x5.Kind,.int .i64 x5.F_0,.int .i64 x5.F_1,.int .i64 x5.F_2,.int .i64 x5.F_3,.int .i64 x5.F_4,.int .i64 x5.F_5]⟩] ZFB h10 λ(x6:Act) h11=>ZM (Obj.cells ⟨[.int .i64 1,.int .i64 0,.slice s1.a s1.len s1.cap,.int .i64 1,.int .i64 2,.slice s2.a s2.len s2.cap,.int .i64 x2.Kind,.int .i64 x2.Who,.slice x2.B.a x2.B.len x2.B.cap,.int .i64 x4.Kind,.int .i64 x4.Who,.slice x4.B.a x4.B.len x4.B.cap,.int .i64 x6.Kind,.int .i64 x6.Who,.slice x6.B.a x6.B.len x6.B.cap]⟩ 87) h11 λk4 h12=>ZX ZFB 87 40 (some ⟨k4,0,none⟩) 5 5 p0.a p0.len h12 λ(p1:Option Addr) (k5 k6:Nat) h13=>ZM (Obj.cells ⟨[.int .i64 1]⟩ 2) h13 λk7 h14=>ZA TP 69 [.int .i64 14,.slice (some ⟨k7,0,none⟩) 1 1] ZAn h14 λ(x7:Msg) h15=>ZA TP 30 [.int .i64 2,.int .i64 2,.agg ⟨[.int .i64 x7.Kind,.int .i64 x7.F_0,.int .i64 x7.F_1,.int .i64 x7.F_2,.int .i64 x7.F_3,.int .i64 x7.F_4,.int .i64 x7.F_5]⟩] ZFB h15 λ(x8:Act) h16=>ZM (Obj.cells ⟨[.int .i64 x8.Kind,.int .i64 x8.Who,.slice x8.B.a x8.B.len x8.B.cap]⟩ 87) h16 λk8 h17=>ZX ZFB 87 40 p1 k5 k6 (some ⟨k8,0,none⟩) 1 h17 λ(p2:Option Addr) (k9 k10:Nat) h18=>Q ⟨p2,k9,k10⟩ h18
theorem c55 {p0 h Q} (hk:F55 p0 h Q):ZA TP 55 [.slice p0.a p0.len p0.cap] (cSl) h Q:=cc a55 n55 hk
def a68:Ann:=mkA 0 [] 0 (bc [])
def n68:An:=(s0 (s0 (sq (s0 (bk (.loop [(3,false,cSl),(4,false,cI .i64)] 33554424 (sq (s0 (cn lf lf)) (sq (bk (s0 r0)) r0))))) (s0 lf))))
def F68 (p0:Sl) (h:Hp) (Q:Sl->Hp->Prop):Prop:=Zj ({a:=none,len:=0,cap:=0:Sl},0) h λ(J1:Sl×Int->Hp->Prop) (z1:Sl×Int) h1=>ZB (decide (z1.snd<(↑p0.len:Int))) (Zl p0.a p0.len z1.snd λa1=>ZC ZQ (a1.add (z1.snd.toNat*8)) h1 λ(x1:ZP)=>ZA TP 113 [.agg ⟨[.int .i64 x1.Seq,.int .i64 x1.Msg_Kind,.int .i64 x1.Msg_F_0,.int .i64 x1.Msg_F_1,.int .i64 x1.Msg_F_2,.int .i64 x1.Msg_F_3,.int .i64 x1.Msg_F_4,.int .i64 x1.Msg_F_5]⟩] cSl h1 λ(s1:Sl) h2=>ZA TP 112 [.slice s1.a s1.len s1.cap] (ZW [cSl,cB]) h2 λ(z2:Sl×Bool) h3=>ZX (cI IntKind.u8) 5 1 z1.fst.a z1.fst.len z1.fst.cap z2.fst.a z2.fst.len h3 λ(p1:Option Addr) (k1 k2:Nat) h4=>J1 (⟨p1,k1,k2⟩,IntKind.i64.wrap (z1.snd+1)) h4) (Q z1.fst h1)
theorem c68 {p0 h Q} (hk:F68 p0 h Q):ZA TP 68 [.slice p0.a p0.len p0.cap] (cSl) h Q:=cc a68 n68 hk
end Go.Proofs.YtkmniidiifpdgaaGreat
set_option maxRecDepth 20000
namespace Go.Proofs.YtkmniidiifpdgaaGreat
open Go.Eng
def a299:Ann:={prom:=128,refs:=[],dyn:=0,bcd:=λs=>match s with|7=>some (ZS)|_=>none,fnv:=λs=>match s with|1=>some (cB)|9=>some (cB)|26=>some (cB)|_=>none,eqs:=ZCW eqL,cdc:=ZMd,res:=ZLt,pure:=ZCW [193],pan:=ZCW [192,276]}
def n299:An:=(s0 (s0 (sq (s0 (cn (s0 lf) lf)) (sq (s0 (bk (.loop [(5,false,cI .i64),(6,false,cI .i64)] 68719411424 (sq (s0 (cn lf lf)) (sq (.blockJ [(5,false,cI .i64)] 68715282592 (s0 (s0 (cn (s0 r0) lf)))) r0))))) (s0 (s0 lf))))))
def F299 (p0:Sl) (p1:FnV) (h:Hp) (Q:Sl->Hp->Prop):Prop:=ZA TP 343 [.slice p0.a p0.len p0.cap,.func (Fn.func p1.g) p1.first p1.cap] (cI IntKind.i64) h λ(n1:Int) h1=>ZB (n1==(-1)) (Q p0 h1) (Zj (n1,IntKind.i64.wrap (n1+1)) h1 λ(J1:Int×Int->Hp->Prop) (z1:Int×Int) h2=>ZB (decide (z1.snd<(↑p0.len:Int))) (ZY (λ(n2:Int) h3=>J1 (n2,IntKind.i64.wrap (z1.snd+1)) h3) λ(J2:Int->Hp->Prop)=>Zl p0.a p0.len z1.snd λa1=>ZC ZS (a1.add (z1.snd.toNat*6)) h2 λ(x1:Za)=>ZBV TP p1.g p1.first p1.cap [.agg ⟨[.int .i64 x1.ID,.int .i64 x1.Ask,.int .i64 x1.Dealer,.int .i64 x1.Price,.int .i64 x1.Expires,.bool x1.Live]⟩] cB h2 λ(t1:Bool) h4=>ZB (!t1) (Zl p0.a p0.len z1.fst λa2=>ZV ZS (a2.add (z1.fst.toNat*6)) x1 h4 λh5=>J2 (IntKind.i64.wrap (z1.fst+1)) h5) (J2 z1.fst h4)) (ZAI p0.len p0.cap (some z1.fst) none λ(k1 k2:Nat)=>ZEC ZS {ID:=0,Ask:=0,Dealer:=0,Price:=0,Expires:=0,Live:=false:Za} (Zm p0.a k1 p0.cap 6) (k2-k1) h2 λh6=>ZAI p0.len p0.cap none (some z1.fst) λ(k3 k4:Nat)=>Q ⟨Zm p0.a k3 p0.cap 6,k4-k3,p0.cap-k3⟩ h6))
theorem c299 {p0 p1 h Q} (hk:F299 p0 p1 h Q):ZA TP 299 [.slice p0.a p0.len p0.cap,.func (Fn.func p1.g) p1.first p1.cap] (cSl) h Q:=cc a299 n299 hk
def a374:Ann:={prom:=0,refs:=[],dyn:=0,bcd:=λs=>match s with|_=>none,fnv:=λs=>match s with|1=>some (cB)|6=>some (cB)|_=>none,eqs:=ZCW eqL,cdc:=ZMd,res:=ZLt,pure:=ZCW [193],pan:=ZCW [192,276]}
def n374:An:=(s0 (s0 lf))
def F374 (p0:Sl) (p1:FnV) (h:Hp) (Q:Bool->Hp->Prop):Prop:=ZA TP 228 [.slice p0.a p0.len p0.cap,.func (Fn.func p1.g) p1.first p1.cap] (cI IntKind.i64) h λ(n1:Int) h1=>Q (decide (n1>=0)) h1
theorem c374 {p0 p1 h Q} (hk:F374 p0 p1 h Q):ZA TP 374 [.slice p0.a p0.len p0.cap,.func (Fn.func p1.g) p1.first p1.cap] (cB) h Q:=cc a374 n374 hk
def a123:Ann:={prom:=0,refs:=[],dyn:=0,bcd:=λs=>match s with|_=>none,fnv:=λs=>match s with|1=>some (cB)|6=>some (cB)|_=>none,eqs:=ZCW eqL,cdc:=ZMd,res:=ZLt,pure:=ZCW [193],pan:=ZCW [192,276]}
def n123:An:=(s0 (s0 lf))
def F123 (p0:Sl) (p1:FnV) (h:Hp) (Q:Bool->Hp->Prop):Prop:=ZA TP 196 [.slice p0.a p0.len p0.cap,.func (Fn.func p1.g) p1.first p1.cap] (cI IntKind.i64) h λ(n1:Int) h1=>Q (decide (n1>=0)) h1
theorem c123 {p0 p1 h Q} (hk:F123 p0 p1 h Q):ZA TP 123 [.slice p0.a p0.len p0.cap,.func (Fn.func p1.g) p1.first p1.cap] (cB) h Q:=cc a123 n123 hk
def a124:Ann:={prom:=0,refs:=[],dyn:=0,bcd:=λs=>match s with|_=>none,fnv:=λs=>match s with|1=>some (cB)|6=>some (cB)|_=>none,eqs:=ZCW eqL,cdc:=ZMd,res:=ZLt,pure:=ZCW [193],pan:=ZCW [192,276]}
def n124:An:=(s0 (s0 lf))
def F124 (p0:Sl) (p1:FnV) (h:Hp) (Q:Bool->Hp->Prop):Prop:=ZA TP 197 [.slice p0.a p0.len p0.cap,.func (Fn.func p1.g) p1.first p1.cap] (cI IntKind.i64) h λ(n1:Int) h1=>Q (decide (n1>=0)) h1
theorem c124 {p0 p1 h Q} (hk:F124 p0 p1 h Q):ZA TP 124 [.slice p0.a p0.len p0.cap,.func (Fn.func p1.g) p1.first p1.cap] (cB) h Q:=cc a124 n124 hk
def a103:Ann:=mkA 0 [] 0 (bc [])
def n103:An:=(s0 (s0 (s0 (sq (s0 (cn (sq (s0 (cn (s0 lf) lf)) (s0 lf)) lf)) (sq (s0 (cn (s0 lf) lf)) (sq (s0 (cn (s0 lf) lf)) (sq (s0 (cn (s0 lf) lf)) (s0 lf))))))))
def F103 (p0:Int) (p1:Int) (h:Hp) (Q:Int->Hp->Prop):Prop:=ZA TP 180 [.int .i64 p0] cB h λ(t1:Bool) h1=>ZA TP 180 [.int .i64 p1] cB h1 λ(t2:Bool) h2=>ZB t1 (ZB t2 (Q 0 h2) (Q (-1) h2)) (ZB t2 (Q 1 h2) (ZB (decide (p0<p1)) (Q (-1) h2) (ZB (decide (p0>p1)) (Q 1 h2) (Q 0 h2))))
theorem c103 {p0 p1 h Q} (hk:F103 p0 p1 h Q):ZA TP 103 [.int .i64 p0,.int .i64 p1] (cI .i64) h Q:=cc a103 n103 hk
def a180:Ann:=mkA 0 [] 0 (bc [])
def n180:An:=(s0 (s0 lf))
def F180 (p0:Int) (h:Hp) (Q:Bool->Hp->Prop):Prop:=Q (p0 != p0) h
theorem c180 {p0 h Q} (hk:F180 p0 h Q):ZA TP 180 [.int .i64 p0] (cB) h Q:=cc a180 n180 hk
def a326:Ann:=mkA 0 [] 0 (bc [])
def n326:An:=(s0 (s0 (sq (s0 (bk (.loop [(8,false,cI .i64)] 130852 (s0 (sq (cn lf lf) (sq (bk (s0 (s0 (cn (s0 lf) lf)))) r0)))))) (s0 lf))))
def F326 (p0:Sl) (h:Hp) (Q:Int->Hp->Prop):Prop:=Zj 0 h λ(J1:Int->Hp->Prop) (n1:Int) h1=>ZB (decide (n1<(↑p0.len:Int))) (Zl p0.a p0.len n1 λa1=>ZC (cI IntKind.i64) (a1.add (n1.toNat*1)) h1 λ(n2:Int)=>ZB (n2 != 0) (Q n2 h1) (J1 (IntKind.i64.wrap (n1+1)) h1)) (Q 0 h1)
theorem c326 {p0 h Q} (hk:F326 p0 h Q):ZA TP 326 [.slice p0.a p0.len p0.cap] (cI .i64) h Q:=cc a326 n326 hk
def a327:Ann:=mkA 0 [] 0 (bc [])
def n327:An:=(s0 (s0 (s0 (sq (s0 (cn (sq (s0 (cn (s0 lf) lf)) (s0 lf)) lf)) (sq (s0 (cn (s0 lf) lf)) (sq (s0 (cn (s0 lf) lf)) (sq (s0 (cn (s0 lf) lf)) (s0 lf))))))))
def F327 (p0:Int) (p1:Int) (h:Hp) (Q:Int->Hp->Prop):Prop:=ZA TP 359 [.int .i64 p0] cB h λ(t1:Bool) h1=>ZA TP 359 [.int .i64 p1] cB h1 λ(t2:Bool) h2=>ZB t1 (ZB t2 (Q 0 h2) (Q (-1) h2)) (ZB t2 (Q 1 h2) (ZB (decide (p0<p1)) (Q (-1) h2) (ZB (decide (p0>p1)) (Q 1 h2) (Q 0 h2))))
theorem c327 {p0 p1 h Q} (hk:F327 p0 p1 h Q):ZA TP 327 [.int .i64 p0,.int .i64 p1] (cI .i64) h Q:=cc a327 n327 hk
def a359:Ann:=mkA 0 [] 0 (bc [])
def n359:An:=(s0 (s0 lf))
def F359 (p0:Int) (h:Hp) (Q:Bool->Hp->Prop):Prop:=Q (p0 != p0) h
theorem c359 {p0 h Q} (hk:F359 p0 h Q):ZA TP 359 [.int .i64 p0] (cB) h Q:=cc a359 n359 hk
def a365:Ann:=mkA 0 [] 0 (bc [])
def n365:An:=(s0 (s0 (s0 (sq (s0 (cn (sq (s0 (cn (s0 lf) lf)) (s0 lf)) lf)) (sq (s0 (cn (s0 lf) lf)) (sq (s0 (cn (s0 lf) lf)) (sq (s0 (cn (s0 lf) lf)) (s0 lf))))))))
def F365 (p0:Int) (p1:Int) (h:Hp) (Q:Int->Hp->Prop):Prop:=ZA TP 379 [.int .u64 p0] cB h λ(t1:Bool) h1=>ZA TP 379 [.int .u64 p1] cB h1 λ(t2:Bool) h2=>ZB t1 (ZB t2 (Q 0 h2) (Q (-1) h2)) (ZB t2 (Q 1 h2) (ZB (decide (p0<p1)) (Q (-1) h2) (ZB (decide (p0>p1)) (Q 1 h2) (Q 0 h2))))
theorem c365 {p0 p1 h Q} (hk:F365 p0 p1 h Q):ZA TP 365 [.int .u64 p0,.int .u64 p1] (cI .i64) h Q:=cc a365 n365 hk
def a379:Ann:=mkA 0 [] 0 (bc [])
def n379:An:=(s0 (s0 lf))
def F379 (p0:Int) (h:Hp) (Q:Bool->Hp->Prop):Prop:=Q (p0 != p0) h
theorem c379 {p0 h Q} (hk:F379 p0 h Q):ZA TP 379 [.int .u64 p0] (cB) h Q:=cc a379 n379 hk
def a364:Ann:=mkA 0 [] 0 (bc [])
def n364:An:=(s0 (s0 (s0 (s0 (s0 (s0 (s0 (s0 (s0 (s0 (s0 (s0 lf))))))))))))
def F364 (p0:Int) (p1:Int) (h:Hp) (Q:Int×Int->Hp->Prop):Prop:=(0:Int)<=32/\(0:Int)<=32/\(0:Int)<=32/\(0:Int)<=32/\(0:Int)<=32/\Q (IntKind.u64.wrap (IntKind.u64.wrap (IntKind.u64.wrap (ZBT IntKind.u64 p0 32*ZBT IntKind.u64 p1 32)+ZBT IntKind.u64 (IntKind.u64.wrap (IntKind.u64.wrap (ZBT IntKind.u64 p0 32*ZDH IntKind.u64 p1 4294967295)+ZBT IntKind.u64 (IntKind.u64.wrap (ZDH IntKind.u64 p0 4294967295*ZDH IntKind.u64 p1 4294967295)) 32)) 32)+ZBT IntKind.u64 (IntKind.u64.wrap (ZDH IntKind.u64 (IntKind.u64.wrap (IntKind.u64.wrap (ZBT IntKind.u64 p0 32*ZDH IntKind.u64 p1 4294967295)+ZBT IntKind.u64 (IntKind.u64.wrap (ZDH IntKind.u64 p0 4294967295*ZDH IntKind.u64 p1 4294967295)) 32)) 4294967295+IntKind.u64.wrap (ZDH IntKind.u64 p0 4294967295*ZBT IntKind.u64 p1 32))) 32),IntKind.u64.wrap (p0*p1)) h
theorem c364 {p0 p1 h Q} (hk:F364 p0 p1 h Q):ZA TP 364 [.int .u64 p0,.int .u64 p1] (ZW [cI .u64,cI .u64]) h Q:=cc a364 n364 hk
def a223:Ann:=mkA 4 [(5,2)] 0 (bc [(2,ZAb)])
def n223:An:=(s0 (s0 lf))
def F223 (p0:Ask) (p1:Int) (h:Hp) (Q:Int->Hp->Prop):Prop:=ZA TP 103 [.int .i64 p0.ID,.int .i64 p1] (cI IntKind.i64) h λ(n1:Int) h1=>Q n1 h1
theorem c223 {p0 p1 h Q} (hk:F223 p0 p1 h Q):ZA TP 223 [ZAb.enc p0,.int .i64 p1] (cI .i64) h Q:=cc a223 n223 hk
def a225:Ann:=mkA 4 [(5,2)] 0 (bc [(2,ZS)])
def n225:An:=(s0 (s0 lf))
def F225 (p0:Za) (p1:Int) (h:Hp) (Q:Int->Hp->Prop):Prop:=ZA TP 103 [.int .i64 p0.ID,.int .i64 p1] (cI IntKind.i64) h λ(n1:Int) h1=>Q n1 h1
theorem c225 {p0 p1 h Q} (hk:F225 p0 p1 h Q):ZA TP 225 [ZS.enc p0,.int .i64 p1] (cI .i64) h Q:=cc a225 n225 hk
def a229:Ann:=mkA 4 [(4,2)] 0 (bc [(2,ZK)])
def n229:An:=(s0 (s0 lf))
def F229 (p0:ZE) (p1:Addr) (h:Hp) (Q:Bool->Hp->Prop):Prop:=ZC (cI IntKind.i64) p1 h λ(n1:Int)=>Q (p0.ID==n1) h
theorem c229 {p0 p1 h Q} (hk:F229 p0 p1 h Q):ZA TP 229 [ZK.enc p0,.pointer (some p1)] (cB) h Q:=cc a229 n229 hk
def a231:Ann:=mkA 8 [(5,3),(10,3)] 0 (bc [(3,ZBk)])
def n231:An:=(s0 (s0 lf))
def F231 (p0:Due) (p1:Addr) (p2:Addr) (h:Hp) (Q:Bool->Hp->Prop):Prop:=ZC (cI IntKind.i64) p1 h λ(n1:Int)=>ZB (p0.Kind==n1) (ZC (cI IntKind.i64) p2 h λ(n2:Int)=>Q (p0.ID==n2) h) (Q false h)
theorem c231 {p0 p1 p2 h Q} (hk:F231 p0 p1 p2 h Q):ZA TP 231 [ZBk.enc p0,.pointer (some p1),.pointer (some p2)] (cB) h Q:=cc a231 n231 hk
def a284:Ann:=mkA 12 [(5,2),(7,3),(10,2),(12,3),(15,2),(17,3)] 0 (bc [(2,ZBk),(3,ZBk)])
def n284:An:=(s0 (sq (rg [0,1,2,3,5,6,7,8,10,11,12,13,4,9,14,15,16,17]) lf))
def F284 (p0:Due) (p1:Due) (h:Hp) (Q:Int->Hp->Prop):Prop:=ZA TP 103 [.int .i64 p0.Tick,.int .i64 p1.Tick] (cI IntKind.i64) h λ(n1:Int) h1=>ZA TP 327 [.int .i64 p0.Kind,.int .i64 p1.Kind] (cI IntKind.i64) h1 λ(n2:Int) h2=>ZA TP 103 [.int .i64 p0.ID,.int .i64 p1.ID] (cI IntKind.i64) h2 λ(n3:Int) h3=>ZM (Obj.cells ⟨[.int .i64 n1,.int .i64 n2,.int .i64 n3]⟩ 3) h3 λk1 h4=>ZA TP 326 [.slice (some ⟨k1,0,none⟩) 3 3] (cI IntKind.i64) h4 λ(n4:Int) h5=>Q n4 h5
theorem c284 {p0 p1 h Q} (hk:F284 p0 p1 h Q):ZA TP 284 [ZBk.enc p0,ZBk.enc p1] (cI .i64) h Q:=cc a284 n284 hk
def a289:Ann:=mkA 8 [(5,3),(10,3),(14,3)] 0 (bc [(3,ZS)])
def n289:An:=(s0 (s0 lf))
def F289 (p0:Za) (p1:Addr) (p2:Addr) (h:Hp) (Q:Bool->Hp->Prop):Prop:=ZC (cI IntKind.i64) p1 h λ(n1:Int)=>ZB (p0.Ask==n1) (ZB p0.Live (ZC (cI IntKind.i64) p2 h λ(n2:Int)=>Q (decide (p0.Expires>n2)) h) (Q false h)) (Q false h)
theorem c289 {p0 p1 p2 h Q} (hk:F289 p0 p1 p2 h Q):ZA TP 289 [ZS.enc p0,.pointer (some p1),.pointer (some p2)] (cB) h Q:=cc a289 n289 hk
def a298:Ann:=mkA 4 [(4,2)] 0 (bc [(2,ZS)])
def n298:An:=(s0 (s0 lf))
def F298 (p0:Za) (p1:Addr) (h:Hp) (Q:Bool->Hp->Prop):Prop:=ZC (cI IntKind.i64) p1 h λ(n1:Int)=>Q (p0.Ask==n1) h
theorem c298 {p0 p1 h Q} (hk:F298 p0 p1 h Q):ZA TP 298 [ZS.enc p0,.pointer (some p1)] (cB) h Q:=cc a298 n298 hk
def a300:Ann:=mkA 4 [(4,2)] 0 (bc [(2,ZS)])
def n300:An:=(s0 (s0 lf))
def F300 (p0:Za) (p1:Addr) (h:Hp) (Q:Bool->Hp->Prop):Prop:=ZC (cI IntKind.i64) p1 h λ(n1:Int)=>Q (p0.Ask==n1) h
theorem c300 {p0 p1 h Q} (hk:F300 p0 p1 h Q):ZA TP 300 [ZS.enc p0,.pointer (some p1)] (cB) h Q:=cc a300 n300 hk
def a202:Ann:=mkA 16 [] 0 (bc [(4,ZK)])
def n202:An:=(s0 (s0 (s0 lf)))
def F202 (p0:Option Addr) (p1:Addr) (h:Hp) (Q:Bool->Hp->Prop):Prop:=ZC (cI IntKind.i64) p1 h λ(n1:Int)=>ZA TP 203 [.pointer p0,.int .i64 n1] (ZW [ZK,cB]) h λ(z1:ZE×Bool) h1=>Q z1.snd h1
theorem c202 {p0 p1 h Q} (hk:F202 p0 p1 h Q):ZA TP 202 [.pointer p0,.pointer (some p1)] (cB) h Q:=cc a202 n202 hk
def a118:Ann:=mkA 2 [] 0 (bc [(1,ZAB)])
def n118:An:=(s0 (s0 lf))
def F118 (p0:Bond) (h:Hp) (Q:Bool->Hp->Prop):Prop:=ZA TP 119 [.agg ⟨[.int .i64 p0.Tick,.int .i64 p0.Lot,.int .i64 p0.Min,.int .i64 p0.Max,.int .i64 p0.Low,.int .i64 p0.High,.bool p0.Halted]⟩] cB h λ(t1:Bool) h1=>Q (!t1) h1
theorem c118 {p0 h Q} (hk:F118 p0 h Q):ZA TP 118 [ZAB.enc p0] (cB) h Q:=cc a118 n118 hk
def a121:Ann:=mkA 4 [] 0 (bc [(2,Z2)])
def n121:An:=(s0 (s0 lf))
def F121 (p0:ZAa) (p1:Addr) (h:Hp) (Q:Bool->Hp->Prop):Prop:=ZC (cI IntKind.u64) p1 h λ(n1:Int)=>ZA TP 122 [.agg ⟨[.int .i64 p0.Role,.int .u64 p0.Asks,.int .i64 p0.Cap]⟩,.int .u64 n1] cB h λ(t1:Bool) h1=>Q (!t1) h1
theorem c121 {p0 p1 h Q} (hk:F121 p0 p1 h Q):ZA TP 121 [Z2.enc p0,.pointer (some p1)] (cB) h Q:=cc a121 n121 hk
def a371:Ann:=mkA 8 [] 0 (bc [(3,ZK)])
def n371:An:=(s0 (s0 lf))
def F371 (p0:ZE) (p1:Addr) (p2:Addr) (h:Hp) (Q:Bool->Hp->Prop):Prop:=ZC ZK p1 h λ(x1:ZE)=>ZC (cI IntKind.i64) p2 h λ(n1:Int)=>ZA TP 372 [.agg ⟨[.int .i64 x1.ID,.int .i64 x1.Seq,.int .i64 x1.Owner,.int .i64 x1.Side,.int .i64 x1.Price,.int .i64 x1.Left]⟩,.agg ⟨[.int .i64 p0.ID,.int .i64 p0.Seq,.int .i64 p0.Owner,.int .i64 p0.Side,.int .i64 p0.Price,.int .i64 p0.Left]⟩,.int .i64 n1] cB h λ(t1:Bool) h1=>Q (!t1) h1
theorem c371 {p0 p1 p2 h Q} (hk:F371 p0 p1 p2 h Q):ZA TP 371 [ZK.enc p0,.pointer (some p1),.pointer (some p2)] (cB) h Q:=cc a371 n371 hk
def a375:Ann:=mkA 4 [(4,2),(10,2)] 0 (bc [(2,ZK)])
def n375:An:=(s0 (s0 lf))
def F375 (p0:ZE) (p1:Addr) (h:Hp) (Q:Bool->Hp->Prop):Prop:=ZC (cI IntKind.i64) (p1.add 0) h λ(n1:Int)=>ZB (p0.ID==n1) (Q true h) (ZC (cI IntKind.i64) ⟨p1.block,p1.off+1,none⟩ h λ(n2:Int)=>Q (p0.Seq==n2) h)
theorem c375 {p0 p1 h Q} (hk:F375 p0 p1 h Q):ZA TP 375 [ZK.enc p0,.pointer (some p1)] (cB) h Q:=cc a375 n375 hk
def a381:Ann:=mkA 4 [(4,2),(10,2)] 0 (bc [(2,ZK)])
def n381:An:=(s0 (s0 lf))
def F381 (p0:ZE) (p1:Addr) (h:Hp) (Q:Bool->Hp->Prop):Prop:=ZC (cI IntKind.i64) (p1.add 0) h λ(n1:Int)=>ZB (p0.ID==n1) (Q true h) (ZC (cI IntKind.i64) ⟨p1.block,p1.off+1,none⟩ h λ(n2:Int)=>Q (p0.Seq==n2) h)
theorem c381 {p0 p1 h Q} (hk:F381 p0 p1 h Q):ZA TP 381 [ZK.enc p0,.pointer (some p1)] (cB) h Q:=cc a381 n381 hk
def a148:Ann:=mkA 4 [(4,2),(9,2)] 0 (bc [(2,ZS)])
def n148:An:=(s0 (s0 lf))
def F148 (p0:Za) (p1:Addr) (h:Hp) (Q:Bool->Hp->Prop):Prop:=ZC (cI IntKind.i64) p1 h λ(n1:Int)=>ZB (p0.Dealer==n1) (Q p0.Live h) (Q false h)
theorem c148 {p0 p1 h Q} (hk:F148 p0 p1 h Q):ZA TP 148 [ZS.enc p0,.pointer (some p1)] (cB) h Q:=cc a148 n148 hk
end Go.Proofs.YtkmniidiifpdgaaGreat
set_option maxRecDepth 20000
namespace Go.Proofs.YtkmniidiifpdgaaGreat
open Go.Eng
def a5:Ann:=mkA 4128 [(94,12),(118,12),(120,12),(133,12),(135,12),(142,5)] 0 (bc [(5,ZAq),(12,ZD5)])
def n5:An:=(s0 (sq (s0 (cn (s0 lf) lf)) (s0 (s0 (s0 (sq (s0 (bk (.loop [(7,false,cSl),(8,false,cSl),(9,false,cI .i64)] 348449143727040986586495598010130614984592 (sq (.join [(32,false,cB)] 8556380160 r0 (cn lf lf)) (sq (bk (sq (.join [(49,false,cB)] 1125865547104256 r0 (cn (s0 lf) lf)) (s0 (s0 (bk (.loop [(7,false,cSl),(8,false,cSl),(11,false,cI .i64)] 348449143727040986586495525952536610609536 (sq (s0 (cn lf lf)) (sq (bk (s0 (.blockJ [(7,false,cSl),(8,false,cSl)] 348449143727040986586200450104951295705472 (.join [(68,false,cB)] 9903520019135137019840167936 r0 (cn (.regT (.node 4 12 (.leaf [(0,[]),(1,[]),(2,[]),(5,[]),(6,[]),(7,[]),(8,[]),(9,[]),(10,[]),(11,[]),(3,[]),(4,[]),(12,[]),(13,[]),(14,[]),(15,[]),(16,[])]) (.leaf [(0,[]),(1,[]),(2,[]),(5,[]),(6,[]),(7,[]),(8,[]),(9,[]),(10,[]),(11,[]),(12,[]),(3,[]),(4,[]),(13,[]),(14,[]),(15,[]),(16,[])]))) (s0 (cn r0 (s0 (cn r0 lf))))))))) r0)))))))) r0))))) (sq (s0 (bk (.loop [(13,false,cI .i64)] 191561942607887658151066337407202152354332259624542208 (sq (.join [(146,false,cB)] 178057512444517944145699250583176761399312384 r0 (cn lf lf)) (sq (bk (s0 (bk (.loop [(14,false,cI .i64)] 191561941894612260941813437864645663227594822081691648 (sq (s0 (cn lf lf)) (sq (bk (s0 (s0 (bk (.loop [(16,false,cI .i64)] 191561577232826774569063827472580468881587476289880064 (sq (s0 (cn lf lf)) (sq (bk (rg [0,1,2,3,4,5,7,8,9,10,6,11,12])) r0))))))) r0)))))) r0))))) (sq (s0 (bk (.loop [(17,false,cI .i64)] 392127296519059311632442045572085362358444872888729337872 (sq (s0 (cn lf lf)) (sq (bk (s0 (cn (s0 lf) lf))) r0))))) (s0 lf)))))))))
def F5 (p0:Int) (p1:Sl) (h:Hp) (Q:Bool->Hp->Prop):Prop:=ZB (decide ((↑p1.len:Int)>120)) (Q true h) (ZA TP 9 [.int .i64 p0] ZAq h λ(x1:ZEl) h1=>ZA TP 8 [.agg ⟨[.slice x1.Bonds.a x1.Bonds.len x1.Bonds.cap,.slice x1.Parties.a x1.Parties.len x1.Parties.cap,.int .i64 x1.Look,.int .i64 x1.Beat]⟩] cP h1 λ(p1_1:Option Addr) h2=>Zj ({a:=none,len:=0,cap:=0:Sl},{a:=none,len:=0,cap:=0:Sl},0) h2 λ(J1:Sl×Sl×Int->Hp->Prop) (z1:Sl×Sl×Int) h3=>ZY (λ(t1:Bool) h4=>ZB t1 (ZY (λ(t2:Bool) h5=>ZB t2 (Q true h5) (Zl p1.a p1.len z1.snd.snd λa1=>ZC ZBe (a1.add (z1.snd.snd.toNat*10)) h5 λ(x2:ZEF)=>ZA TP 14 [.pointer p1_1,.agg ⟨[.int .i64 x2.Kind,.int .i64 x2.Who,.int .i64 x2.N,.int .i64 x2.Msg_Kind,.int .i64 x2.Msg_F_0,.int .i64 x2.Msg_F_1,.int .i64 x2.Msg_F_2,.int .i64 x2.Msg_F_3,.int .i64 x2.Msg_F_4,.int .i64 x2.Msg_F_5]⟩] cSl h5 λ(s1:Sl) h6=>Zj (z1.fst,z1.snd.fst,0) h6 λ(J2:Sl×Sl×Int->Hp->Prop) (z2:Sl×Sl×Int) h7=>ZB (decide (z2.snd.snd<(↑s1.len:Int))) (Zl s1.a s1.len z2.snd.snd λa2=>ZC ZD5 ⟨(a2.add (z2.snd.snd.toNat*8)).block,(a2.add (z2.snd.snd.toNat*8)).off+1+1,none⟩ h7 λ(x3:ZON)=>ZY (λ(z3:Sl×Sl) h8=>J2 (z3.fst,z3.snd,IntKind.i64.wrap (z2.snd.snd+1)) h8) λ(J3:Sl×Sl->Hp->Prop)=>ZY (λ(t3:Bool) h9=>ZB t3 (atP 6 1 (Zl p1.a p1.len z1.snd.snd λa3=>atP 6 3 (ZM (Obj.cells ⟨[.int .i64 x3.e1]⟩ 2) h9 λk1 h10=>ZX (cI IntKind.i64) 2 8 z2.fst.a z2.fst.len z2.fst.cap (some ⟨k1,0,none⟩) 1 h10 λ(p2:Option Addr) (k2 k3:Nat) h11=>ZC (cI IntKind.i64) ⟨(a3.add (z1.snd.snd.toNat*10)).block,(a3.add (z1.snd.snd.toNat*10)).off+3+1+3,none⟩ h11 λ(n1:Int)=>ZM (Obj.cells ⟨[.int .i64 n1]⟩ 2) h11 λk4 h12=>ZX (cI IntKind.i64) 2 8 z2.snd.fst.a z2.snd.fst.len z2.snd.fst.cap (some ⟨k4,0,none⟩) 1 h12 λ(p3:Option Addr) (k5 k6:Nat) h13=>J3 (⟨p2,k2,k3⟩,⟨p3,k5,k6⟩) h13))/\atP 6 1 (Zl p1.a p1.len z1.snd.snd λa4=>atP 6 3 (ZC (cI IntKind.i64) ⟨(a4.add (z1.snd.snd.toNat*10)).block,(a4.add (z1.snd.snd.toNat*10)).off+3+1+3,none⟩ h9 λ(n2:Int)=>ZM (Obj.cells ⟨[.int .i64 x3.e1]⟩ 2) h9 λk7 h14=>ZX (cI IntKind.i64) 2 8 z2.fst.a z2.fst.len z2.fst.cap (some ⟨k7,0,none⟩) 1 h14 λ(p4:Option Addr) (k8 k9:Nat) h15=>ZM (Obj.cells ⟨[.int .i64 n2]⟩ 2) h15 λk10 h16=>ZX (cI IntKind.i64) 2 8 z2.snd.fst.a z2.snd.fst.len z2.snd.fst.cap (some ⟨k10,0,none⟩) 1 h16 λ(p5:Option Addr) (k11 k12:Nat) h17=>J3 (⟨p4,k8,k9⟩,⟨p5,k11,k12⟩) h17))) (Zl s1.a s1.len z2.snd.snd λa5=>ZC (cI IntKind.i64) ⟨(a5.add (z2.snd.snd.toNat*8)).block,(a5.add (z2.snd.snd.toNat*8)).off+1,none⟩ h9 λ(n3:Int)=>ZB (n3==20) (atP 6 0 (atP 6 2 (ZA TP 22 [.slice z2.fst.a z2.fst.len z2.fst.cap,.slice z2.snd.fst.a z2.snd.fst.len z2.snd.fst.cap,.int .i64 x3.e0,.int .i64 x3.e2] (ZW []) h9 λu1 h18=>J3 (z2.fst,z2.snd.fst) h18))) (Zl s1.a s1.len z2.snd.snd λa6=>ZC (cI IntKind.i64) ⟨(a6.add (z2.snd.snd.toNat*8)).block,(a6.add (z2.snd.snd.toNat*8)).off+1,none⟩ h9 λ(n4:Int)=>ZB (n4==21) (atP 6 0 (atP 6 1 (ZA TP 22 [.slice z2.fst.a z2.fst.len z2.fst.cap,.slice z2.snd.fst.a z2.snd.fst.len z2.snd.fst.cap,.int .i64 x3.e0,.int .i64 x3.e1] (ZW []) h9 λu2 h19=>J3 (z2.fst,z2.snd.fst) h19))) (J3 (z2.fst,z2.snd.fst) h9)))) λ(J4:Bool->Hp->Prop)=>Zl s1.a s1.len z2.snd.snd λa7=>ZC (cI IntKind.i64) ⟨(a7.add (z2.snd.snd.toNat*8)).block,(a7.add (z2.snd.snd.toNat*8)).off+1,none⟩ h7 λ(n5:Int)=>ZB (n5==18) (Zl p1.a p1.len z1.snd.snd λa8=>ZC (cI IntKind.i64) ((a8.add (z1.snd.snd.toNat*10)).add 0) h7 λ(n6:Int)=>ZB (n6==1) (Zl p1.a p1.len z1.snd.snd λa9=>ZC (cI IntKind.i64) ⟨(a9.add (z1.snd.snd.toNat*10)).block,(a9.add (z1.snd.snd.toNat*10)).off+3,none⟩ h7 λ(n7:Int)=>J4 (n7==6) h7) (J4 false h7)) (J4 false h7)) (J1 (z2.fst,z2.snd.fst,IntKind.i64.wrap (z1.snd.snd+1)) h7))) λ(J5:Bool->Hp->Prop)=>Zl p1.a p1.len z1.snd.snd λa10=>ZC (cI IntKind.i64) ((a10.add (z1.snd.snd.toNat*10)).add 0) h4 λ(n8:Int)=>ZB (n8==1) (Zl p1.a p1.len z1.snd.snd λa11=>ZC (cI IntKind.i64) ⟨(a11.add (z1.snd.snd.toNat*10)).block,(a11.add (z1.snd.snd.toNat*10)).off+3,none⟩ h4 λ(n9:Int)=>J5 (n9==8) h4) (J5 false h4)) (Zj 0 h4 λ(J6:Int->Hp->Prop) (n10:Int) h20=>ZY (λ(t4:Bool) h21=>ZB t4 (Zj 1 h21 λ(J7:Int->Hp->Prop) (n11:Int) h22=>ZB (decide (n11<=2)) (ZA TP 19 [.pointer p1_1,.int .i64 n10] cP h22 λ(p6:Option Addr) h23=>ZA TP 20 [.pointer p6,.int .i64 n11] cSl h23 λ(s2:Sl) h24=>Zj 0 h24 λ(J8:Int->Hp->Prop) (n12:Int) h25=>ZB (decide (n12<(↑s2.len:Int))) (Zl s2.a s2.len n12 λa12=>Zl s2.a s2.len n12 λa13=>ZC (cI IntKind.i64) ((a12.add (n12.toNat*6)).add 0) h25 λ(n13:Int)=>ZC (cI IntKind.i64) ⟨(a13.add (n12.toNat*6)).block,(a13.add (n12.toNat*6)).off+5,none⟩ h25 λ(n14:Int)=>ZA TP 22 [.slice z1.fst.a z1.fst.len z1.fst.cap,.slice z1.snd.fst.a z1.snd.fst.len z1.snd.fst.cap,.int .i64 n13,.int .i64 n14] (ZW []) h25 λu3 h26=>J8 (IntKind.i64.wrap (n12+1)) h26) (J7 (IntKind.i64.wrap (n11+1)) h25)) (J6 (IntKind.i64.wrap (n10+1)) h22)) (Zj 0 h21 λ(J9:Int->Hp->Prop) (n15:Int) h27=>ZB (decide (n15<(↑z1.snd.fst.len:Int))) (Zl z1.snd.fst.a z1.snd.fst.len n15 λa14=>ZC (cI IntKind.i64) (a14.add (n15.toNat*1)) h27 λ(n16:Int)=>ZB (n16 != 0) (Q false h27) (J9 (IntKind.i64.wrap (n15+1)) h27)) (ZB (!p1_1.isNone) (ZA TP 18 [] cB h27 λ(t5:Bool) h28=>Q t5 h28) (Q false h27)))) λ(J10:Bool->Hp->Prop)=>ZB (!p1_1.isNone) (J10 (decide (n10<(↑x1.Bonds.len:Int))) h20) (J10 false h20))) λ(J11:Bool->Hp->Prop)=>ZB (!p1_1.isNone) (J11 (decide (z1.snd.snd<(↑p1.len:Int))) h3) (J11 false h3))
theorem c5 {p0 p1 h Q} (hk:F5 p0 p1 h Q):ZA TP 5 [.int .i64 p0,.slice p1.a p1.len p1.cap] (cB) h Q:=cc a5 n5 hk
def ZDz (s b:Int):Int:=
 orI .u32 (ZLw .u32 ((IntKind.u32.wrap (ZBT .u32 s 16+(IntKind.u32.wrap (IntKind.u32.wrap (ZDH .u32 s 65535+IntKind.u32.wrap b)+1)).tmod 65521)).tmod 65521) 16)
  ((IntKind.u32.wrap (IntKind.u32.wrap (ZDH .u32 s 65535+IntKind.u32.wrap b)+1)).tmod 65521)
theorem ZXz {s b:Int} {h:Hp} {Q:Int->Hp->Prop} (hq:Q (ZDz s b) h):ZA TP 321 [Value.int .u32 s,Value.int .u8 b] (cI .u32) h Q:=by refine c321 ?_;unfold F321;exact ⟨by decide,by decide,by decide,by decide,hq⟩
theorem ZTu {s b:Int} {h:Hp} {Q:Int->Hp->Prop} (hq:Q (ZDz s b) h):ZA TP 268 [Value.int .u32 s,Value.int .u8 b] (cI .u32) h Q:=by refine c268 ?_;unfold F268;exact ⟨by decide,by decide,by decide,by decide,hq⟩
theorem ZZV {p0:Sl} {g h:Hp} {ss:List Sl} {bss:List (List Int)} (hg:g.sub h) (r:Row cSl g p0 ss) (rr:ZD3 g ss bss) (hl:ss.length≤9223372036854775807) (hb:∀ bs∈bss,bs.length≤9223372036854775807)
 {Q:Int->Hp->Prop} (hq:Q (bss.flatten.foldl ZDz 0) h):ZA TP 272 [Value.slice p0.a p0.len p0.cap] (cI .u32) h Q:=by
 have hlen:=rr.len;refine c272 ?_;unfold F272;refine Zb (λz h'=>∃ i:Nat,z.2=i/\i<=ss.length/\z.1=(bss.take i).flatten.foldl ZDz 0/\h'=h) (λz=>ss.length-z.2.toNat) ⟨0,rfl,Nat.zero_le _,rfl,rfl⟩ ?_;rintro J ⟨s,n⟩ h' again ⟨i,hi,hle,hs,rfl⟩
 dsimp only at hi hs;subst hi hs;refine ZJ (λhlt=>?_) (λhge=>?_)
 .dsimp only at hlt;rw [r.1] at hlt;have hlt:i<ss.length:=by omega
  have hi:ss[i]?=some ss[i]:=List.getElem?_eq_getElem hlt;obtain ⟨bs,hbi,rb⟩:=rr.get i _ hi;refine ZL r (by omega) (by omega) λa ha=>ZO r hg rfl ha (i:=i) hi (by simp) ?_;refine Zb (λz h''=>∃ j:Nat,z.2=j/\j<=bs.length/\z.1=(bs.take j).foldl ZDz ((bss.take i).flatten.foldl ZDz 0)/\h''=h') (λz=>bs.length-z.2.toNat) ⟨0,rfl,Nat.zero_le _,rfl,rfl⟩ ?_;rintro J2 ⟨s2,n2⟩ h'' again2 ⟨j,hj,hle2,hs2,rfl⟩;dsimp only at hj hs2;subst hj hs2;have hbl:=hb bs (List.mem_of_getElem? hbi);refine ZJ (λhlt2=>?_) (λhge2=>?_)
  .dsimp only at hlt2;rw [rb.1] at hlt2;have hlt2:j<bs.length:=by omega
   have hbj:bs[j]?=some bs[j]:=List.getElem?_eq_getElem hlt2;refine ZL rb (by omega) (by omega) λa2 ha2=>ZO rb hg rfl ha2 (i:=j) hbj (by simp) ?_;refine ZXz (again2 _ _ ⟨j+1,?_,by omega,?_,rfl⟩ ?_)
   .dsimp only; exact ZAQ (by omega)
   .exact (Z7 ZDz _ bs hbj).symm
   .dsimp only; rw [ZAQ (by omega)]; omega
  .dsimp only at hge2;rw [rb.1] at hge2;have hj:j=bs.length:=by omega
   subst hj;refine again _ _ ⟨i+1,?_,by omega,?_,rfl⟩ ?_
   .dsimp only; exact ZAQ (by omega)
   .dsimp only;rw [List.take_length,List.take_add_one,hbi,List.flatten_append,List.foldl_append];simp
   .dsimp only; rw [ZAQ (by omega)]; omega
 .dsimp only at hge;rw [r.1] at hge;have:i=bss.length:=by omega
  subst this;rw [List.take_length];exact hq
theorem ZYj {p0:Sl} {g h:Hp} {bs:List Int} (hg:g.sub h) (r:Row (cI .u8) g p0 bs) (hl:bs.length<=9223372036854775807) {Q:Int->Hp->Prop} (hq:Q (bs.foldl ZDz 0) h):
 ZA TP 186 [Value.slice p0.a p0.len p0.cap] (cI .u32) h Q:=by
 refine c186 ?_;unfold F186;refine Zb (λz h'=>∃ i:Nat,z.2=i/\i<=bs.length/\z.1=(bs.take i).foldl ZDz 0/\h'=h) (λz=>bs.length-z.2.toNat) ⟨0,rfl,Nat.zero_le _,rfl,rfl⟩ ?_;rintro J ⟨s,n⟩ h' again ⟨i,hi,hle,hs,rfl⟩
 dsimp only at hi hs;subst hi hs;refine ZJ (λhlt=>?_) (λhge=>?_)
 .dsimp only at hlt;rw [r.1] at hlt;have hlt:i<bs.length:=by omega
  have hi:bs[i]?=some bs[i]:=List.getElem?_eq_getElem hlt;refine ZL r (by omega) (by omega) λa ha=>ZO r hg rfl ha (i:=i) hi (by simp) ?_;refine ZTu (again _ _ ⟨i+1,?_,by omega,?_,rfl⟩ ?_)
  .dsimp only; exact ZAQ (by omega)
  .exact (Z7 ZDz _ bs hi).symm
  .dsimp only; rw [ZAQ (by omega)]; omega
 .dsimp only at hge;rw [r.1] at hge;have:i=bs.length:=by omega
  subst this;rw [List.take_length];exact hq
theorem ZZr {b:Nat} {e:TypeId} {l:List Hp} {s:Sl} {h:Hp} {bs:List Int} (o:On h l) (i:Nat) (hi:l[i]?=some (ob b [Value.slice s.a s.len s.cap] e)) (r:Row (cI .u8) h s bs) (hl:bs.length<=9223372036854775807)
 {Q:Int->Hp->Prop} (hq:Q (bs.foldl ZDz 0) h):ZA TP 272 [Value.slice (some ⟨b,0,none⟩) 1 1] (cI .u32) h Q:=by
 have r1:Row cSl h ⟨some ⟨b,0,none⟩,1,1⟩ [s]:=(Ze (cd:=cSl) (xs:=[s]) rfl rfl).sub (o.get hi);refine ZZV (p0:=⟨some ⟨b,0,none⟩,1,1⟩) (ss:=[s]) (bss:=[bs]) (Hp.sub_refl h) r1 ⟨r,trivial⟩ (by simp) (by simpa using hl) ?_;simpa using hq
def Lawful (g:Hp) (v:Bool) (h':Hp):Prop:=v=true/\g.sub h'
def toB (x:Int):BitVec 64:=BitVec.ofInt 64 x
theorem ZWt (v:BitVec 64):toB (v.toNat:Int)=v:=by unfold toB;rw [BitVec.ofInt_natCast,BitVec.ofNat_toNat,BitVec.setWidth_eq]
theorem ZCj (n:Int):IntKind.u64.wrap n=n % 18446744073709551616:=by simp [IntKind.wrap,IntKind.signed,IntKind.bits]
theorem ZWK (n:Int):toB (n % 18446744073709551616)=toB n:=by apply BitVec.eq_of_toNat_eq;simp only [toB,BitVec.toNat_ofInt];congr 1;exact Int.emod_emod_of_dvd n (Int.dvd_refl _)
theorem ZUq (n:Int):toB (IntKind.u64.wrap n)=toB n:=by rw [ZCj,ZWK]
theorem ZRY (x y:Int):toB (ZPa .u64 x y)=toB x ^^^ toB y:=by show toB (IntKind.u64.wrap ((BitVec.ofInt 64 x ^^^ BitVec.ofInt 64 y).toNat:Int))=_;rw [ZUq,ZWt]; rfl
theorem ZKN (n:Int):0<=IntKind.u64.wrap n/\IntKind.u64.wrap n<18446744073709551616:=by rw [ZCj]; omega
theorem ZKb (x y:Int):0<=ZPa .u64 x y/\ZPa .u64 x y<18446744073709551616:=ZKN _
theorem ZR3 {x y:Int} (hx:0<=x/\x<18446744073709551616) (hy:0<=y/\y<18446744073709551616) (h:toB x=toB y):x=y:=by have:=congrArg BitVec.toNat h;simp only [toB,BitVec.toNat_ofInt] at this;omega
theorem ZHC (n:Int):IntKind.u32.wrap n=n % 4294967296:=by simp [IntKind.wrap,IntKind.signed,IntKind.bits]
theorem ZaX {s:Int} (h:0<=s/\s<4294967296):ZDH .u32 s 65535=s % 65536:=by
 show IntKind.u32.wrap ((BitVec.ofInt 32 s &&& BitVec.ofInt 32 65535).toNat:Int)=_;have e:(BitVec.ofInt 32 s &&& BitVec.ofInt 32 65535).toNat=s.toNat % 65536:=by
  rw [BitVec.toNat_and,BitVec.toNat_ofInt,show (BitVec.ofInt 32 65535).toNat=2 ^ 16-1 from rfl,Nat.and_two_pow_sub_one_eq_mod];have:(s % ((2 ^ 32:Nat):Int)).toNat=s.toNat:=by omega
  rw [this]
 rw [e,ZHC];omega
theorem ZZ9 {s:Int} (_h:0<=s):ZBT .u32 s 16=s / 65536:=by show s.fdiv (2 ^ 16)=_;rw [Int.fdiv_eq_ediv_of_nonneg _ (by decide)];rfl
theorem ZaG {s:Int} (h:0<=s/\s<65536):ZLw .u32 s 16=s*65536:=by show IntKind.u32.wrap (s*2 ^ 16)=_;rw [ZHC];omega
theorem Zak {a b:Int} (ha:0<=a/\a<65536) (hb:0<=b/\b<65536):orI .u32 (a*65536) b=a*65536+b:=by
 show IntKind.u32.wrap ((BitVec.ofInt 32 (a*65536) ||| BitVec.ofInt 32 b).toNat:Int)=_;have e:(BitVec.ofInt 32 (a*65536) ||| BitVec.ofInt 32 b).toNat=65536*a.toNat+b.toNat:=by
  rw [BitVec.toNat_or,BitVec.toNat_ofInt,BitVec.toNat_ofInt];have e1:((a*65536) % ((2 ^ 32:Nat):Int)).toNat=2 ^ 16*a.toNat:=by omega
  have e2:(b % ((2 ^ 32:Nat):Int)).toNat=b.toNat:=by omega
  rw [e1,e2,<-Nat.two_pow_add_eq_or_of_lt (by omega)]
 rw [e,ZHC];omega
def Low (s lo:Int):Prop:=0<=lo/\lo<65521/\∃ hi:Int,0<=hi/\hi<65521/\s=hi*65536+lo
theorem ZTi {s lo b:Int} (h:Low s lo) (hb:0<=b/\b<256):Low (ZDz s b) ((lo+b+1) % 65521):=by
 obtain ⟨h1,h2,hi,h3,h4,rfl⟩:=h;have hl:(IntKind.u32.wrap (IntKind.u32.wrap (ZDH .u32 (hi*65536+lo) 65535+IntKind.u32.wrap b)+1)).tmod 65521=(lo+b+1) % 65521:=by rw [ZaX (by omega),ZHC,ZHC,ZHC,Int.tmod_eq_emod_of_nonneg (by omega)];omega
 have hh:(IntKind.u32.wrap (ZBT .u32 (hi*65536+lo) 16+(lo+b+1) % 65521)).tmod 65521=(hi+(lo+b+1) % 65521) % 65521:=by rw [ZZ9 (by omega),ZHC,Int.tmod_eq_emod_of_nonneg (by omega)];omega
 unfold ZDz;rw [hl,hh,ZaG (by omega),Zak (by omega) (by omega)];exact ⟨by omega,by omega,_,by omega,by omega,rfl⟩
def ZYZ (bs:List Int):Int:=bs.foldr (λb n=>b+1+n) 0
theorem ZM8:∀ (bs:List Int) (s lo:Int),Low s lo→(∀ b∈bs,0≤b∧b<256)→Low (bs.foldl ZDz s) ((lo+ZYZ bs) % 65521)
 | [],s,lo,h,_=>by
   have:(lo+ZYZ []) % 65521=lo:=by have:=h.1; have:=h.2.1;show (lo+0) % 65521=lo;omega
   rw [this]; exact h
 | b::bs,s,lo,h,hb=>by
   have:=ZM8 bs _ _ (ZTi h (hb b (by simp))) λx hx=>hb x (by simp [hx]);have e:(lo+ZYZ (b::bs)) % 65521=((lo+b+1) % 65521+ZYZ bs) % 65521:=by show (lo+(b+1+ZYZ bs)) % 65521=_;omega
   rw [e]; exact this
theorem ZU2:Low 0 0:=⟨by omega,by omega,0,by omega,by omega,by omega⟩
def sv (s:Sl):Value:=.slice s.a s.len s.cap
theorem ZOL {p0:Sl} {g h:Hp} {l:List Hp} {bs:List Int} (o:On h l) {i:Nat} (hi:l[i]?=some g) (r:Row (cI .u8) g p0 bs) (hl:bs.length<=1000000) {Q:Sl->Hp->Prop}
 (hq:∀ s d h',On h' (d::l)->Own (cI .u8) d s bs->Q s h'):ZA TP 273 [Value.slice p0.a p0.len p0.cap] cSl h Q:=by
 refine c273 ?_;unfold F273;refine ZD (λhn=>?_) λ_=>?_
 .have ha:p0.a=none:=Option.isNone_iff_eq_none.1 hn;have:bs=[]:=by have:=r.2;rw [ha] at this;exact this
  subst this;exact hq _ Hp.emp h o.emp (Own.nil _)
 .refine ZH o λk1 h1 o1=>?_;have w0:Own (cI .u8) (ob k1 [] 5) ⟨some ⟨k1,0,none⟩,0,0⟩ []:=ZBN (cd:=cI .u8) (xs:=[]) (rest:=[]) rfl rfl rfl;exact ZU (g:=g) (s:=⟨some ⟨k1,0,none⟩,0,0⟩) (t:=p0) o1 rfl w0 (by decide) r (o1.get (i:=i+1) (by simpa using hi)) (by unfold ZAR; simp; omega) λc p k2 k3 h3 o3 w3=>hq _ c _ o3 w3
def ZQY:List Hp->List Sl->List (List Int)->Prop
 | [],[],[]=>True
 | d::ds,s::ss,b::q=>Own (cI .u8) d s b/\ZQY ds ss q
 | _,_,_=>False
theorem ZQY.len:∀ {ds:List Hp} {ss:List Sl} {q:List (List Int)},ZQY ds ss q->ss.length=q.length
 | [],[],[],_=>rfl
 | _::_,_::_,_::_,h=>by simp [ZQY.len h.2]
 | [],_::_,_,h=>h.elim
 | [],[],_::_,h=>h.elim
 | _::_,[],_,h=>h.elim
 | _::_,_::_,[],h=>h.elim
theorem ZQY.push:∀ {ds:List Hp} {ss:List Sl} {q:List (List Int)} {d:Hp} {s:Sl} {b:List Int},ZQY ds ss q->Own (cI .u8) d s b->ZQY (ds++[d]) (ss++[s]) (q++[b])
 | [],[],[],_,_,_,_,h=>⟨h,trivial⟩
 | _::_,_::_,_::_,_,_,_,h,h'=>⟨h.1,ZQY.push h.2 h'⟩
 | [],_::_,_,_,_,_,h,_=>h.elim
 | [],[],_::_,_,_,_,h,_=>h.elim
 | _::_,[],_,_,_,_,h,_=>h.elim
 | _::_,_::_,[],_,_,_,h,_=>h.elim
theorem ZNB (b:Nat) (o:Obj):Hp.one b o b=some o:=by simp [Hp.one]
theorem ZOp (s:ByteArray):ZJ9 s s=true:=by simp [ZJ9]
theorem ZWo {cd:Cdc} {g h:Hp} {s:Sl} {xs:List cd.T} (r:Row cd g s xs) (hs:g.sub h) (hm:cd.mem=true) {a:Addr} (ha:s.a=some a) {i:Nat} {x:cd.T} (hx:xs[i]?=some x) {m:Nat} (hn:i*cd.n=m):h.rds (a.add m) (cd.enc x).cells.toList:=by
 have hr:=r.2;rw [ha] at hr;subst hn;have hl:((cd.enc x).cells.toList).length=cd.n:=by simpa using (ZAh hm x).1
 exact Hp.sub_rds hs (Hp.rds_add hr _ (by rw [hl]; exact ZFA hm xs i x hx))
theorem Zg {cd cf:Cdc} {g h:Hp} {s:Sl} {xs:List cd.T} (r:Row cd g s xs) (hs:g.sub h) (hm:cd.mem=true) {a:Addr} (ha:s.a=some a) {i:Nat} {x:cd.T} (hx:xs[i]?=some x) {m k:Nat} (hn:i*cd.n=m) {y:cf.T}
 (hy:((cd.enc x).cells.toList.drop k).take (cf.enc y).cells.toList.length=(cf.enc y).cells.toList) {K:cf.T->Prop} (h2:K y):ZC cf ((a.add m).add k) h K:=by
 refine ⟨y,?_,h2⟩;have hr:=r.2;rw [ha] at hr;subst hn;have hl:((cd.enc x).cells.toList).length=cd.n:=by simpa using (ZAh hm x).1
 exact Hp.sub_rds hs (Hp.rds_add (Hp.rds_add hr _ (by rw [hl]; exact ZFA hm xs i x hx)) _ hy)
def ZI0 (n:Int):Int:=if n<0 then -2*n-1 else 2*n
def I64 (n:Int):Prop:=-9223372036854775808<=n/\n<=9223372036854775807
theorem ZFK {n:Int} (h:I64 n):0<=ZI0 n/\ZI0 n<18446744073709551616:=by unfold I64 at h; unfold ZI0; split<;>omega
def grp (z:Nat):List Int:=if z<128 then [(z:Int)] else ((z % 128+128:Nat):Int)::grp (z / 128)
termination_by z
decreasing_by omega
theorem ZGc {z:Nat} (h:z<128):grp z=[(z:Int)]:=by unfold grp; rw [if_pos h]
theorem ZHV {z:Nat} (h:128<=z):grp z=((z % 128+128:Nat):Int)::grp (z / 128):=by rw [grp,if_neg (by omega)]
theorem ZTQ:∀ (k z:Nat),0<k→z<128 ^ k→(grp z).length≤k
 | 0,_,h,_=>by omega
 | k+1,z,_,h=>by
   by_cases hz:z<128
   .rw [ZGc hz]; simp
   .rw [ZHV (by omega)];have hk:0<k:=by
     rcases Nat.eq_zero_or_pos k with h0|h0
     .subst h0; simp at h; omega
     .exact h0
    have:=ZTQ k (z / 128) hk (by rw [Nat.pow_succ] at h; exact Nat.div_lt_of_lt_mul (by rw [Nat.mul_comm]; exact h));simp only [List.length_cons]; omega
theorem ZTx:∀ (z:Nat),∀ b∈grp z,0≤b∧b<256:=by
 intro z;induction z using Nat.strongRecOn with
 | _ z ih=>
   intro b hb;by_cases hz:z<128
   .rw [ZGc hz] at hb; rw [List.mem_singleton] at hb; omega
   .rw [ZHV (by omega)] at hb;rcases List.mem_cons.1 hb with rfl|hb
    .omega
    .exact ih (z / 128) (by omega) b hb
theorem ZV0 (z:Nat):grp z≠[]:=by
 by_cases hz:z<128
 .rw [ZGc hz]; simp
 .rw [ZHV (by omega)]; simp
def ZKn (n:Int):List Int:=grp (ZI0 n).toNat
def ZEi (l:List Int):List Int:=l.flatMap ZKn
theorem ZJq {n:Int} (h:I64 n):(ZKn n).length<=10:=by have:=ZFK h;exact ZTQ 10 _ (by decide) (by omega)
theorem ZBU (n:Int) (l:List Int):ZEi (n::l)=ZKn n++ZEi l:=rfl
theorem ZLx (a b:List Int):ZEi (a++b)=ZEi a++ZEi b:=by simp [ZEi]
theorem ZFI:∀ (l:List Int),(∀ n∈l,I64 n)->(ZEi l).length<=10*l.length
 | [],_=>by simp [ZEi]
 | n::l,h=>by have h1:=ZJq (h n (by simp));have h2:=ZFI l λx hx=>h x (by simp [hx]);rw [ZBU,List.length_append,List.length_cons]; omega
theorem ZS5 (l:List Int):∀ b∈ZEi l,0<=b/\b<256:=by intro b hb;obtain ⟨n,_,hb⟩:=List.mem_flatMap.1 hb;exact ZTx _ b hb
theorem ZKA {l:List Int} {i:Nat} {x:Int} (hx:l[i]?=some x):ZEi (l.take (i+1))=ZEi (l.take i)++ZKn x:=by
 have:l.take (i+1)=l.take i++[x]:=by rw [List.take_add_one,hx]; rfl
 rw [this,ZLx];simp [ZEi]
theorem ZHB (n:Int):IntKind.u8.wrap n=n % 256:=by simp [IntKind.wrap,IntKind.signed,IntKind.bits]
set_option maxRecDepth 10000 in
theorem or8 (z:Nat):orI .u8 (IntKind.u8.wrap (z:Int)) 128=((z % 128+128:Nat):Int):=by
 show IntKind.u8.wrap ((BitVec.ofInt 8 (IntKind.u8.wrap (z:Int)) ||| BitVec.ofInt 8 128).toNat:Int)=_;have key:∀ x:Fin 256,((BitVec.ofNat 8 x.val ||| 128#8).toNat:Nat)=x.val % 128+128:=by decide
 have e:BitVec.ofInt 8 (IntKind.u8.wrap (z:Int))=BitVec.ofNat 8 (z % 256):=by rw [ZHB,show ((z:Int) % 256)=((z % 256:Nat):Int) by omega,BitVec.ofInt_natCast]
 rw [e,show BitVec.ofInt 8 128=128#8 from rfl,key ⟨z % 256,by omega⟩,ZHB];dsimp only;omega
theorem Zaj (z:Nat):ZBT .u64 (z:Int) 7=((z / 128:Nat):Int):=by show (z:Int).fdiv (2 ^ 7)=_;rw [Int.fdiv_eq_ediv_of_nonneg _ (by decide)];omega
theorem ZOh {x:Int} (h:0<=x/\x<18446744073709551616):ZPa .u64 x 0=x:=by apply ZR3 (ZKb _ _) h;rw [ZRY,show toB 0=0#64 from rfl,BitVec.xor_zero]
theorem ZO2 {x:Int} (h:0<=x/\x<18446744073709551616):ZPa .u64 x 18446744073709551615=18446744073709551615-x:=by apply ZR3 (ZKb _ _) (by omega);rw [ZRY,show toB 18446744073709551615=BitVec.allOnes 64 by decide,BitVec.xor_allOnes];apply BitVec.eq_of_toNat_eq;rw [BitVec.toNat_not];simp only [toB,BitVec.toNat_ofInt];omega
theorem ZSP {n:Int} (h:I64 n):ZPa .u64 (ZLw .u64 (IntKind.u64.wrap n) 1) (IntKind.u64.wrap (ZBT .i64 n 63))=ZI0 n:=by
 unfold I64 at h;have e1:ZLw .u64 (IntKind.u64.wrap n) 1=(2*n) % 18446744073709551616:=by show IntKind.u64.wrap (IntKind.u64.wrap n*2 ^ 1)=_;rw [ZCj,ZCj]; omega
 have e2:ZBT .i64 n 63=if n<0 then -1 else 0:=by show n.fdiv (2 ^ 63)=_;rw [Int.fdiv_eq_ediv_of_nonneg _ (by decide)];split<;>omega
 rw [e1,e2];unfold ZI0;split
 .rw [show IntKind.u64.wrap (-1)=18446744073709551615 by decide,ZO2 (by omega)]; omega
 .rw [show IntKind.u64.wrap 0=0 by decide,ZOh (by omega)]; omega
theorem ZWp {n:Int} (h:I64 n) (hn:n<0):IntKind.u64.wrap (IntKind.u64.wrap (2*IntKind.u64.wrap (IntKind.i64.wrap (0-IntKind.i64.wrap (n+1))))+1)=ZI0 n:=by unfold I64 at h;rw [w64 (n:=n+1) (by omega) (by omega),w64 (by omega) (by omega),ZCj,ZCj,ZCj];unfold ZI0; rw [if_pos hn]; omega
theorem ZWJ {n:Int} (h:I64 n) (hn:¬n<0):IntKind.u64.wrap (2*IntKind.u64.wrap n)=ZI0 n:=by unfold I64 at h;rw [ZCj,ZCj];unfold ZI0; rw [if_neg hn]; omega
theorem ZK8 {n:Int} (h:(Lit.int .i64 n).wf=true):I64 n:=by simp [Lit.wf,IntKind.min,IntKind.max,IntKind.signed,IntKind.bits] at h;unfold I64; omega
def ZA9:Nat→Nat→List Int→Option (Nat×Nat)
 | _,_,[]=>none
 | i,z,c::l=>if 10≤i then none else if 128≤c then ZA9 (i+1) (z+(c.toNat % 128)*128 ^ i) l
    else if (c=0/\0<i)\/(i=9/\1<c) then none else some (z+c.toNat*128 ^ i,i+1)
def ZPz (z:Nat):Int:=if z % 2=1 then -((z / 2:Nat):Int)-1 else ((z / 2:Nat):Int)
def ZAO (bs:List Int):Option (Int×Nat):=(ZA9 0 0 bs).map λx=>(ZPz x.1,x.2)
def Zz (bs:List Int):Prop:=∀ b∈bs,0<=b/\b<256
theorem Zz.drop {bs:List Int} (h:Zz bs) (k:Nat):Zz (bs.drop k):=λb hb=>h b (List.mem_of_mem_drop hb)
theorem ZXL {n:Int}:ZPz (ZI0 n).toNat=n:=by unfold ZPz ZI0;split<;>split<;>omega
theorem ZWH (z:Nat):(ZI0 (ZPz z)).toNat=z:=by unfold ZPz ZI0;split<;>split<;>omega
theorem ZXf {z:Nat} (h:z<18446744073709551616):I64 (ZPz z):=by unfold ZPz I64;split<;>omega
theorem ZT4 (z:Nat):ZKn (ZPz z)=grp z:=by unfold ZKn; rw [ZWH]
theorem ZOd:∀ (m i z:Nat) (rest:List Int),i≤9→m*128 ^ i<18446744073709551616→(i=0∨0<m)→ZA9 i z (grp m++rest)=some (z+m*128 ^ i,i+(grp m).length):=by
 intro m;induction m using Nat.strongRecOn with
 | _ m ih=>
   intro i z rest hi hm h0;by_cases hz:m<128
   ·rw [ZGc hz];show ZA9 i z ((m:Int)::rest)=_;unfold ZA9;rw [if_neg (by omega),if_neg (by omega),if_neg ?_]
    .simp
    .rintro (⟨h1,h2⟩|⟨rfl,h2⟩)
     .omega
     .have:(128:Nat) ^ 9=9223372036854775808:=by decide
      rw [this] at hm;omega
   ·rw [ZHV (by omega)];show ZA9 i z (((m % 128+128:Nat):Int)::(grp (m / 128)++rest))=_;unfold ZA9;have hi9:i<9:=by
     rcases Nat.lt_or_ge i 9 with h|h
     .exact h
     .have:i=9:=by omega
      subst this;have:(128:Nat) ^ 9=9223372036854775808:=by decide
      rw [this] at hm;omega
    have hp:(128:Nat) ^ (i+1)=128*128 ^ i:=by rw [Nat.pow_succ,Nat.mul_comm]
    have hle:m / 128*128<=m:=Nat.div_mul_le_self m 128;have hmul:m / 128*128 ^ (i+1)<=m*128 ^ i:=by rw [hp,<-Nat.mul_assoc];exact Nat.mul_le_mul_right _ hle
    rw [if_neg (by omega),if_pos (by omega)];rw [ih (m / 128) (by omega) (i+1) _ rest (by omega) (by omega) (.inr (by omega))];have e1:(((m % 128+128:Nat):Int).toNat % 128)=m % 128:=by omega
    rw [e1,hp];congr 2
    .rw [Nat.add_assoc];congr 1;rw [<-Nat.mul_assoc,<-Nat.add_mul];congr 1;omega
    .simp only [List.length_cons]; omega
theorem ZEe {n:Int} (h:I64 n) (rest:List Int):ZAO (ZKn n++rest)=some (n,(ZKn n).length):=by have hz:=ZFK h;unfold ZAO ZKn;rw [ZOd _ 0 0 rest (by omega) (by omega) (.inl rfl)];simp only [Option.map_some];rw [show 0+(ZI0 n).toNat*128 ^ 0=(ZI0 n).toNat by simp,ZXL,Nat.zero_add]
theorem ZLI (i:Nat) (h:i<=9):128 ^ i=1\/128 ^ i=128\/128 ^ i=16384\/128 ^ i=2097152\/128 ^ i=268435456\/128 ^ i=34359738368\/128 ^ i=4398046511104\/128 ^ i=562949953421312\/128 ^ i=72057594037927936\/(i=9/\128 ^ i=9223372036854775808):=by
 have:i=0\/i=1\/i=2\/i=3\/i=4\/i=5\/i=6\/i=7\/i=8\/i=9:=by omega
 rcases this with rfl|rfl|rfl|rfl|rfl|rfl|rfl|rfl|rfl|rfl<;>decide
theorem ZaH {i m d:Nat} (hi:i<=8) (hm:m*128 ^ (i+1)<18446744073709551616) (hd:d<128):(d+128*m)*128 ^ i<18446744073709551616:=by
 have hK:128 ^ (i+1) ∣ 18446744073709551616:=by rw [show (128:Nat)=2 ^ 7 by decide,<-Nat.pow_mul,show 18446744073709551616=2 ^ 64 by decide];exact Nat.pow_dvd_pow 2 (by omega)
 obtain ⟨q,hq⟩:=hK;have hp:(128:Nat) ^ (i+1)=128*128 ^ i:=by rw [Nat.pow_succ,Nat.mul_comm]
 have hpos:0<128 ^ i:=Nat.pow_pos (by decide);rw [hq,Nat.mul_comm] at hm;have hmq:m<q:=Nat.lt_of_mul_lt_mul_left hm;rw [hq,hp]
 calc (d+128*m)*128 ^ i<(128*(m+1))*128 ^ i:=Nat.mul_lt_mul_of_pos_right (by omega) hpos
  _=128*128 ^ i*(m+1):=by rw [Nat.mul_assoc,Nat.mul_assoc,Nat.mul_comm (m+1)]
  _<=128*128 ^ i*q:=Nat.mul_le_mul_left _ hmq
theorem ZO7:∀ (bs:List Int) (i z y k:Nat),Zz bs→ZA9 i z bs=some (y,k)→
 i<=9/\∃ m,y=z+m*128 ^ i/\bs.take (k-i)=grp m/\k=i+(grp m).length/\m*128 ^ i<18446744073709551616/\(i=0\/0<m):=by
 intro bs;induction bs with
 | nil=>intro i z y k _ h; cases h
 | cons c l ih=>
   intro i z y k hb h;have hc:=hb c (by simp);unfold ZA9 at h;split at h
   .cases h
   ·rename_i h10;split at h
    .rename_i h128;obtain ⟨hi,m,hy,ht,hk,hm,hpos⟩:=ih (i+1) _ y k (λb hb'=>hb b (by simp [hb'])) h;have hm0:0<m:=by omega
     have hp:(128:Nat) ^ (i+1)=128*128 ^ i:=by rw [Nat.pow_succ,Nat.mul_comm]
     have hcn:c.toNat % 128+128=c.toNat:=by omega
     have hg:grp (c.toNat % 128+128*m)=c::grp m:=by rw [ZHV (by omega)];rw [show (c.toNat % 128+128*m) / 128=m by omega,show (c.toNat % 128+128*m) % 128=c.toNat % 128 by omega,hcn];congr 1;omega
     refine ⟨by omega,c.toNat % 128+128*m,?_,?_,?_,?_,.inr (by omega)⟩
     .rw [hy,hp,Nat.add_mul,<-Nat.mul_assoc,Nat.mul_comm m 128,Nat.add_assoc]
     .rw [hg,show k-i=(k-(i+1))+1 by omega,List.take_succ_cons,ht]
     .rw [hg,hk]; simp; omega
     .exact ZaH (by omega) hm (by omega)
    ·rename_i h128;split at h
     .cases h
     .rename_i hbad;simp only [Option.some.injEq,Prod.mk.injEq] at h;obtain ⟨rfl,rfl⟩:=h;have hlt:c.toNat<128:=by omega
      refine ⟨by omega,c.toNat,rfl,?_,?_,?_,?_⟩
      .rw [ZGc hlt,show i+1-i=1 by omega];simp; omega
      .rw [ZGc hlt]; rfl
      .rcases ZLI i (by omega) with e|e|e|e|e|e|e|e|e|⟨e9,e⟩;all_goals (simp only [e]; clear ih hb; omega)
      .by_cases h0:i=0
       .exact .inl h0
       .right;have:c≠0:=λhc0=>hbad (.inl ⟨hc0,by omega⟩);omega
theorem ZCA {bs:List Int} {v:Int} {k:Nat} (hb:Zz bs) (h:ZAO bs=some (v,k)):I64 v/\bs.take k=ZKn v/\k=(ZKn v).length/\k<=bs.length/\0<k:=by
 unfold ZAO at h;rw [Option.map_eq_some_iff] at h;obtain ⟨⟨y,k'⟩,h1,h2⟩:=h;simp only [Prod.mk.injEq] at h2;obtain ⟨rfl,rfl⟩:=h2;obtain ⟨_,m,hy,ht,hk,hm,_⟩:=ZO7 bs 0 0 y k' hb h1;have hym:y=m:=by simpa using hy
 subst hym;rw [Nat.sub_zero] at ht;rw [Nat.zero_add] at hk;have hlen:=congrArg List.length ht;rw [List.length_take] at hlen;have hne:(grp y).length≠0:=λh0=>ZV0 y (List.length_eq_zero_iff.1 h0);rw [ZT4];exact ⟨ZXf (by simpa using hm),ht,hk,by omega,by omega⟩
def ZLl:Nat→List Int→Option (List Int)
 | 0,[]=>some []
 | 0,_::_=>none
 | n+1,bs=>match ZAO bs with
   | none=>none
   | some (v,k)=>(ZLl n (bs.drop k)).map (v::·)
def ZJ8 (bs:List Int) (n:Int):Option (List Int):=if n<0 then none else ZLl n.toNat bs
theorem ZEn {n:Nat} {bs:List Int} (h:ZAO bs=none):ZLl (n+1) bs=none:=by unfold ZLl; rw [h]
theorem ZBR {n:Nat} {bs:List Int} {v:Int} {k:Nat} (h:ZAO bs=some (v,k)):ZLl (n+1) bs=(ZLl n (bs.drop k)).map (v::·):=by
 conv=>lhs; unfold ZLl
 rw [h]
theorem ZOB:∀ (l:List Int) (rest:List Int),(∀ n∈l,I64 n)->ZLl l.length (ZEi l)=some l
 | [],_,_=>rfl
 | n::l,rest,h=>by have h1:=ZEe (h n (by simp)) (ZEi l);rw [<-ZBU] at h1;rw [List.length_cons,ZBR h1,ZBU,List.drop_append_of_le_length (Nat.le_refl _),List.drop_length,List.nil_append,ZOB l rest λx hx=>h x (by simp [hx])];rfl
theorem ZJK:∀ (n:Nat) (bs l:List Int),Zz bs→ZLl n bs=some l→l.length=n∧bs=ZEi l∧∀ x∈l,I64 x
 | 0,[],l,_,h=>by simp only [ZLl,Option.some.injEq] at h; subst h; exact ⟨rfl,rfl,λx hx=>by cases hx⟩
 | 0,_::_,l,_,h=>by cases h
 | n+1,bs,l,hb,h=>by
   unfold ZLl at h;split at h
   .cases h
   .rename_i v k hv;rw [Option.map_eq_some_iff] at h;obtain ⟨l',h1,rfl⟩:=h;obtain ⟨a1,a2,a3⟩:=ZJK n _ l' (hb.drop k) h1;obtain ⟨b1,b2,b3,b4,b5⟩:=ZCA hb hv;refine ⟨by simp [a1],?_,λx hx=>?_⟩
    .rw [ZBU,<-a2,<-b2,List.take_append_drop]
    .rcases List.mem_cons.1 hx with rfl|hx
     .exact b1
     .exact a3 x hx
theorem ZPC {n:Int} {h:Hp} {Q:Int->Hp->Prop} (hn:I64 n) (hq:Q (ZI0 n) h):ZA TP 350 [Value.int .i64 n] (cI .u64) h Q:=by refine c350 ?_;unfold F350;refine ⟨by decide,by decide,?_⟩;rw [ZSP hn]; exact hq
theorem ZYV {n:Int} {h:Hp} {Q:Int->Hp->Prop} (hn:I64 n) (hq:Q (ZI0 n) h):ZA TP 320 [Value.int .i64 n] (cI .u64) h Q:=by
 refine c320 ?_;unfold F320;refine ZJ (λh0=>?_) λh0=>?_
 .rw [ZWp hn h0]; exact hq
 .rw [ZWJ hn h0]; exact hq
theorem ZTJ {p0:Sl} {g h:Hp} {l:List Hp} {ns:List Int} (o:On h l) (hg:g∈l) (r:Row (cI .i64) g p0 ns) (hn:∀ n∈ns,I64 n) (hl:ns.length≤1000000) {Q:Sl→Hp→Prop}
 (hq:∀ s d h',On h' (d::l)->Own (cI .u8) d s (ZEi ns)->Q s h'):ZA TP 315 [Value.slice p0.a p0.len p0.cap] cSl h Q:=by
 refine c315 ?_;unfold F315;refine Zb (λz h'=>∃ (i:Nat) (d:Hp),z.2=i/\i<=ns.length/\On h' (d::l)/\Own (cI .u8) d z.1 (ZEi (ns.take i))) (λz=>ns.length-z.2.toNat) ⟨0,Hp.emp,rfl,Nat.zero_le _,o.emp,Own.nil _⟩ ?_;rintro J ⟨s,z⟩ h' again ⟨i,d,hi,hle,o',w⟩
 dsimp only at hi w;subst hi;refine ZJ (λhlt=>?_) λhge=>?_
 .dsimp only at hlt;rw [r.1] at hlt;have hlt:i<ns.length:=by omega
  have hi:ns[i]?=some ns[i]:=List.getElem?_eq_getElem hlt;refine ZL r (by omega) (by omega) λa ha=>ZO r (o'.mem (by simp [hg])) rfl ha (i:=i) hi (by simp) ?_;have hni:=hn _ (List.mem_of_getElem? hi);have hzr:=ZFK hni;refine ZPC hni ?_;have hT:=ZKA hi;have hTl:=ZFI (ns.take (i+1)) λn hn'=>hn n (List.mem_of_mem_take hn');rw [List.length_take] at hTl;refine Zb (λz h2=>∃ (zn:Nat) (d:Hp) (pre:List Int),z.2=zn/\zn<18446744073709551616/\On h2 (d::l)/\Own (cI .u8) d z.1 pre/\pre++grp zn=ZEi (ns.take (i+1))) (λz=>z.2.toNat)
   ⟨(ZI0 ns[i]).toNat,d,_,by dsimp only; omega,by omega,o',w,hT.symm⟩ ?_
  rintro J2 ⟨s2,z2⟩ h2 again2 ⟨zn,d2,pre,hz,hzl,o2,w2,hpre⟩;dsimp only at hz w2;subst hz;have hpl:pre.length<=10000000:=by have:=congrArg List.length hpre;rw [List.length_append] at this;omega
  refine ZJ (λhge=>?_) λhlt2=>?_
  .dsimp only at hge;refine ZH o2 λk1 h3 o3=>?_;have rb:Row (cI .u8) (ob k1 [Value.int .u8 ((zn % 128+128:Nat):Int)] 5) ⟨some ⟨k1,0,none⟩,1,1⟩ [((zn % 128+128:Nat):Int)]:=Ze rfl rfl;dsimp only at o3;rw [or8] at o3;refine ZU (s:=s2) (t:=⟨some ⟨k1,0,none⟩,1,1⟩) o3.swap rfl w2 (by decide) rb (o3.get (i:=0) rfl) (by unfold ZAR; simp; omega) λd4 p4 n4 m4 h4 o4 w4=>?_;refine ⟨by decide,?_⟩;have e:=Zaj zn;refine again2 _ _ ⟨zn / 128,d4,_,e,by omega,o4.sublist (by simp),w4,?_⟩ ?_
   .rw [<-hpre,ZHV (z:=zn) (by omega)]; simp
   .dsimp only; rw [e]; omega
  .dsimp only at hlt2;refine ZH o2 λk1 h3 o3=>?_;have rb:Row (cI .u8) (ob k1 [Value.int .u8 (zn:Int)] 5) ⟨some ⟨k1,0,none⟩,1,1⟩ [(zn:Int)]:=Ze rfl rfl;dsimp only at o3;rw [ZHB,show (zn:Int) % 256=zn by omega] at o3;refine ZU (s:=s2) (t:=⟨some ⟨k1,0,none⟩,1,1⟩) o3.swap rfl w2 (by decide) rb (o3.get (i:=0) rfl) (by unfold ZAR; simp; omega) λd4 p4 n4 m4 h4 o4 w4=>?_;refine again _ _ ⟨i+1,d4,ZAQ (by omega),by omega,o4.sublist (by simp),?_⟩ (by dsimp only; rw [ZAQ (by omega)]; omega);rw [<-hpre,ZGc (z:=zn) (by omega)];exact w4
 .dsimp only at hge;rw [r.1] at hge;have:i=ns.length:=by omega
  subst this;rw [List.take_length] at w;exact hq _ _ _ o' w
theorem ZWR {n:Int} {h:Hp} {l:List Hp} (o:On h l) (hn:I64 n) {Q:Sl->Hp->Prop}
 (hq:∀ s d h',On h' (d::l)->Own (cI .u8) d s (ZKn n)->Q s h'):ZA TP 269 [Value.int .i64 n] cSl h Q:=by
 have hzr:=ZFK hn;have hlen:=ZJq hn;refine c269 ?_;unfold F269;refine ZYV hn ?_;refine Zb (λz h2=>∃ (zn:Nat) (d:Hp) (pre:List Int),z.1=zn/\zn<18446744073709551616/\On h2 (d::l)/\Own (cI .u8) d z.2 pre/\pre++grp zn=ZKn n) (λz=>z.1.toNat)
  ⟨(ZI0 n).toNat,Hp.emp,[],by dsimp only; omega,by omega,o.emp,Own.nil _,rfl⟩ ?_
 rintro J2 ⟨z2,s2⟩ h2 again2 ⟨zn,d2,pre,hz,hzl,o2,w2,hpre⟩;dsimp only at hz w2;subst hz;have hpl:pre.length<=10:=by have:=congrArg List.length hpre;rw [List.length_append] at this;omega
 refine ZJ (λhge=>?_) λhlt2=>?_
 .dsimp only at hge;refine ⟨by decide,ZH o2 λk1 h3 o3=>?_⟩;have rb:Row (cI .u8) (ob k1 [Value.int .u8 ((zn % 128+128:Nat):Int)] 5) ⟨some ⟨k1,0,none⟩,1,1⟩ [((zn % 128+128:Nat):Int)]:=Ze rfl rfl;dsimp only at o3;rw [show IntKind.u8.wrap (IntKind.u64.wrap ((zn:Int).tmod 128+128))=((zn % 128+128:Nat):Int) by rw [ZHB,ZCj,Int.tmod_eq_emod_of_nonneg (by omega)]; omega] at o3;refine ZU (s:=s2) (t:=⟨some ⟨k1,0,none⟩,1,1⟩) o3.swap rfl w2 (by decide) rb (o3.get (i:=0) rfl) (by unfold ZAR; simp; omega) λd4 p4 n4 m4 h4 o4 w4=>?_;refine ⟨by decide,?_⟩;have e:ZXK .u64 (zn:Int) 128=((zn / 128:Nat):Int):=by show IntKind.u64.wrap ((zn:Int).tdiv 128)=_;rw [Int.tdiv_eq_ediv_of_nonneg (by omega),ZCj]; omega
  refine again2 _ _ ⟨zn / 128,d4,_,e,by omega,o4.sublist (by simp),w4,?_⟩ ?_
  .rw [<-hpre,ZHV (z:=zn) (by omega)]; simp
  .dsimp only; rw [e]; omega
 .dsimp only at hlt2;refine ZH o2 λk1 h3 o3=>?_;have rb:Row (cI .u8) (ob k1 [Value.int .u8 (zn:Int)] 5) ⟨some ⟨k1,0,none⟩,1,1⟩ [(zn:Int)]:=Ze rfl rfl;dsimp only at o3;rw [ZHB,show (zn:Int) % 256=zn by omega] at o3;refine ZU (s:=s2) (t:=⟨some ⟨k1,0,none⟩,1,1⟩) o3.swap rfl w2 (by decide) rb (o3.get (i:=0) rfl) (by unfold ZAR; simp; omega) λd4 p4 n4 m4 h4 o4 w4=>?_;refine hq _ d4 _ (o4.sublist (by simp)) ?_;rw [<-hpre,ZGc (z:=zn) (by omega)];exact w4
theorem ZTy {p0:Sl} {g h:Hp} {l:List Hp} {ns:List Int} (o:On h l) (hg:g∈l) (r:Row (cI .i64) g p0 ns) (hn:∀ n∈ns,I64 n) (hl:ns.length<=1000000) {Q:Sl->Hp->Prop}
 (hq:∀ s d h',On h' (d::l)->Own (cI .u8) d s (ZEi ns)->Q s h'):ZA TP 187 [Value.slice p0.a p0.len p0.cap] cSl h Q:=by
 refine c187 ?_;unfold F187;refine ZH o λk1 h1 o1=>?_;refine Zb (λz h'=>∃ (i:Nat) (d:Hp),z.2=i/\i<=ns.length/\On h' (d::l)/\Own (cI .u8) d z.1 (ZEi (ns.take i))) (λz=>ns.length-z.2.toNat) ⟨0,_,rfl,Nat.zero_le _,o1,ZBN (cd:=cI .u8) (xs:=[]) (rest:=[]) rfl rfl rfl⟩ ?_;rintro J ⟨s,z⟩ h' again ⟨i,d,hi,hle,o',w⟩
 dsimp only at hi w;subst hi;refine ZJ (λhlt=>?_) λhge=>?_
 .dsimp only at hlt;rw [r.1] at hlt;have hlt:i<ns.length:=by omega
  have hi:ns[i]?=some ns[i]:=List.getElem?_eq_getElem hlt;refine ZL r (by omega) (by omega) λa ha=>ZO r (o'.mem (by simp [hg])) rfl ha (i:=i) hi (by simp) ?_;have hni:=hn _ (List.mem_of_getElem? hi);have hT:=ZKA hi;have hTl:=ZFI (ns.take i) λn hn'=>hn n (List.mem_of_mem_take hn');rw [List.length_take] at hTl;have h1l:=ZJq hni;refine ZWR o' hni λs3 d3 h3 o3 w3=>?_;refine ZU (s:=s) (t:=s3) o3.swap rfl w (by decide) w3.row (o3.get (i:=0) rfl) (by unfold ZAR; omega) λd4 p4 n4 m4 h4 o4 w4=>?_;refine again _ _ ⟨i+1,d4,ZAQ (by omega),by omega,o4.sublist (by simp),?_⟩ (by dsimp only; rw [ZAQ (by omega)]; omega);rw [hT]; exact w4
 .dsimp only at hge;rw [r.1] at hge;have:i=ns.length:=by omega
  subst this;rw [List.take_length] at w;exact hq _ _ _ o' w
theorem ZaP (i:Nat):(2:Nat) ^ (7*i)=128 ^ i:=by rw [Nat.pow_mul]
theorem ZV7 {z d i:Nat} (hi:i<=9) (hz:z<128 ^ i) (hd:d*128 ^ i<18446744073709551616):orI .u64 (z:Int) (ZLw .u64 ((d:Nat):Int) ((7*i:Nat):Int))=((z+d*128 ^ i:Nat):Int):=by
 have e1:ZLw .u64 ((d:Nat):Int) ((7*i:Nat):Int)=((d*128 ^ i:Nat):Int):=by
  show IntKind.u64.wrap ((d:Int)*2 ^ (min ((7*i:Nat):Int).toNat 64))=_;rw [show min ((7*i:Nat):Int).toNat 64=7*i by omega,ZCj];have:(d:Int)*2 ^ (7*i)=((d*128 ^ i:Nat):Int):=by rw [<-ZaP]; simp
  rw [this]; omega
 rw [e1];show IntKind.u64.wrap ((BitVec.ofInt 64 (z:Int) ||| BitVec.ofInt 64 ((d*128 ^ i:Nat):Int)).toNat:Int)=_;have hz':z<18446744073709551616:=by rcases ZLI i hi with e|e|e|e|e|e|e|e|e|⟨_,e⟩<;>(simp only [e] at hz; omega)
 have e2:(BitVec.ofInt 64 (z:Int) ||| BitVec.ofInt 64 ((d*128 ^ i:Nat):Int)).toNat=z+d*128 ^ i:=by rw [BitVec.toNat_or,BitVec.ofInt_natCast,BitVec.ofInt_natCast,BitVec.toNat_ofNat,BitVec.toNat_ofNat,Nat.mod_eq_of_lt hz',Nat.mod_eq_of_lt hd,<-ZaP,Nat.or_comm,Nat.mul_comm d];rw [<-Nat.two_pow_add_eq_or_of_lt (by rw [ZaP]; exact hz)];omega
 rw [e2,ZCj];have hsum:z+d*128 ^ i<18446744073709551616:=by rcases ZLI i hi with e|e|e|e|e|e|e|e|e|⟨_,e⟩<;>(simp only [e] at hz hd ⊢; omega)
 omega
theorem ZXn {c:Int} (h:0<=c/\c<256):IntKind.u64.wrap (c.tmod 128)=((c.toNat % 128:Nat):Int):=by rw [Int.tmod_eq_emod_of_nonneg h.1,ZCj]; omega
theorem ZX0 {z:Nat} (h:z<18446744073709551616):ZPa .i64 (IntKind.i64.wrap (ZBT .u64 (z:Int) 1)) (IntKind.i64.wrap (0-IntKind.i64.wrap (ZDH .u64 (z:Int) 1)))=ZPz z:=by
 have e1:ZBT .u64 (z:Int) 1=((z / 2:Nat):Int):=by show (z:Int).fdiv (2 ^ 1)=_;rw [Int.fdiv_eq_ediv_of_nonneg _ (by decide)]; omega
 have e2:ZDH .u64 (z:Int) 1=((z % 2:Nat):Int):=by show IntKind.u64.wrap ((BitVec.ofInt 64 (z:Int) &&& BitVec.ofInt 64 1).toNat:Int)=_;rw [BitVec.toNat_and,BitVec.ofInt_natCast,BitVec.toNat_ofNat,show (BitVec.ofInt 64 1).toNat=2 ^ 1-1 from rfl,Nat.and_two_pow_sub_one_eq_mod,Nat.mod_eq_of_lt h,ZCj];omega
 rw [e1,e2,w64 (n:=((z / 2:Nat):Int)) (by omega) (by omega),w64 (n:=((z % 2:Nat):Int)) (by omega) (by omega),w64 (by omega) (by omega)];show IntKind.i64.wrap ((BitVec.ofInt 64 ((z / 2:Nat):Int) ^^^ BitVec.ofInt 64 (0-((z % 2:Nat):Int))).toNat:Int)=_;unfold ZPz;by_cases hp:z % 2=1
 .rw [if_pos hp,hp,show (0-((1:Nat):Int))=-1 by omega,show BitVec.ofInt 64 (-1)=BitVec.allOnes 64 by decide,BitVec.xor_allOnes,BitVec.toNat_not,BitVec.ofInt_natCast,BitVec.toNat_ofNat,IntKind.wrap_i64];omega
 .rw [if_neg hp,show z % 2=0 by omega,show (0-((0:Nat):Int))=0 by omega,show BitVec.ofInt 64 0=0#64 by decide,BitVec.xor_zero,BitVec.ofInt_natCast,BitVec.toNat_ofNat,w64 (by omega) (by omega)];omega
theorem ZWS {z:Nat} {h:Hp} {Q:Int->Hp->Prop} (hz:z<18446744073709551616) (hq:Q (ZPz z) h):ZA TP 322 [Value.int .u64 (z:Int)] (cI .i64) h Q:=by refine c322 ?_;unfold F322;refine ⟨by decide,?_⟩;rw [ZX0 hz]; exact hq
def ZJ1 (bs:List Int):Int×Int×Bool:=
 match ZAO bs with
 | none=>(0,0,false)
 | some (v,k)=>(v,(k:Int),true)
theorem ZDq {bs:List Int} (h:ZAO bs=none):ZJ1 bs=(0,0,false):=by unfold ZJ1; rw [h]
theorem ZE8 {bs:List Int} {v:Int} {k:Nat} (h:ZAO bs=some (v,k)):ZJ1 bs=(v,(k:Int),true):=by unfold ZJ1; rw [h]
theorem ZPA {i z:Nat} {c:Int} {l:List Int} (h1:c<128) (h2:(c=0/\0<i)\/(i=9/\1<c)):ZA9 i z (c::l)=none:=by
 unfold ZA9;split
 .rfl
 .have e1:¬(128:Int)<=c:=by omega
  simp only [if_neg e1]
theorem ZPo {i z:Nat} {c:Int} {l:List Int} (h0:i<=9) (h1:c<128) (h2:¬((c=0/\0<i)\/(i=9/\1<c))):ZA9 i z (c::l)=some (z+c.toNat*128 ^ i,i+1):=by unfold ZA9;rw [if_neg (by omega),if_neg (by omega),if_neg h2]
theorem ZMO {i z:Nat} {c:Int} {l:List Int} (h0:i<=9) (h1:128<=c):ZA9 i z (c::l)=ZA9 (i+1) (z+(c.toNat % 128)*128 ^ i) l:=by
 conv=>lhs; unfold ZA9
 rw [if_neg (by omega),if_pos h1]
theorem ZPS (z:Nat) (l:List Int):ZA9 10 z l=none:=by
 cases l with
 | nil=>rfl
 | cons c l=>unfold ZA9; rw [if_pos (by omega)]
theorem ZHg {bs:List Int} {i z:Nat} (h:ZA9 0 0 bs=ZA9 i z (bs.drop i)) {o:Option (Nat×Nat)} (ho:ZA9 i z (bs.drop i)=o):ZAO bs=o.map λx=>(ZPz x.1,x.2):=by unfold ZAO; rw [h,ho]
theorem Zai {i z d:Nat} (hi:i<=8) (hz:z<128 ^ i) (hd:d<128):z+d*128 ^ i<128 ^ (i+1)/\d*128 ^ i<18446744073709551616:=by
 have hp:(128:Nat) ^ (i+1)=128*128 ^ i:=by rw [Nat.pow_succ,Nat.mul_comm]
 rw [hp];rcases ZLI i (by omega) with e|e|e|e|e|e|e|e|e|⟨e9,e⟩;all_goals (simp only [e] at hz ⊢; omega)
theorem ZaV {i z d:Nat} (hi:i<=9) (hz:z<128 ^ i) (hd:d<128) (h9:i=9->d<=1):d*128 ^ i<18446744073709551616/\z+d*128 ^ i<18446744073709551616:=by rcases ZLI i hi with e|e|e|e|e|e|e|e|e|⟨e9,e⟩;all_goals (first|(simp only [e] at hz ⊢; have:=h9 e9; omega)|(simp only [e] at hz ⊢; omega))
theorem ZNt {p0:Sl} {g h:Hp} {bs:List Int} (hg:g.sub h) (r:Row (cI .u8) g p0 bs) (hb:Zz bs) (hcap:bs.length≤p0.cap) (hl:bs.length≤1000000) {Q:Int×Int×Bool→Hp→Prop} (hq:Q (ZJ1 bs) h):
 ZA TP 274 [Value.slice p0.a p0.len p0.cap] (ZW [cI .i64,cI .i64,cB]) h Q:=by
 refine c274 ?_;unfold F274;have hlen:=r.1;obtain ⟨m,hm⟩:∃ m:Nat,m=min bs.length 10:=⟨_,rfl⟩
 have hmin:ZJy (p0.len:Int) 10=(m:Int):=by unfold ZJy; rw [hlen,hm]; split<;>omega
 rw [hmin];refine ⟨by omega,by omega,?_⟩;rw [show ((m:Int).toNat)=m by omega];have r1:=r.cut (k:=0) (m:=m) (cap':=0) (by omega) (by omega) hcap rfl (z:=1) rfl;refine Zb (λz h'=>∃ i zn:Nat,z.2=i/\i<=m/\h'=h/\ZA9 0 0 bs=ZA9 i zn (bs.drop i)/\(i<=9->z.1=zn/\zn<128 ^ i)) (λz=>m-z.2.toNat) ⟨0,0,rfl,Nat.zero_le _,rfl,rfl,λ_=>⟨rfl,by decide⟩⟩ ?_;rintro J ⟨x,z⟩ h' again ⟨i,zn,hz,hle,rfl,hf,hx⟩
 dsimp only at hz hx;subst hz;refine ZJ (λhlt=>?_) λhge=>?_
 ·have hltn:i<m:=by dsimp only at hlt; omega
  clear hlt;have hlt:=hltn;obtain ⟨rfl,hzn⟩:=hx (by omega);have hil:i<bs.length:=by omega
  have hi:bs[i]?=some bs[i]:=List.getElem?_eq_getElem hil;have hi1:((bs.drop 0).take (m-0))[i]?=some bs[i]:=by rw [List.drop_zero,Nat.sub_zero,List.getElem?_take_of_lt hlt]; exact hi
  have hdrop:bs.drop i=bs[i]::bs.drop (i+1):=List.drop_eq_getElem_cons hil;have hc:=hb _ (List.mem_of_getElem? hi);refine ZL r1 (Int.natCast_nonneg i) (by simp; omega) λa ha=>ZO r1 hg rfl ha (i:=i) hi1 (by simp) ?_;generalize bs[i]=c at hi hi1 hdrop hc;have e7:IntKind.i64.wrap (7*(i:Int))=((7*i:Nat):Int):=by rw [w64 (by omega) (by omega)]; omega
  dsimp only;rw [e7,ZXn hc];refine ⟨by decide,by omega,?_⟩;refine ZJ (λhc1=>?_) λhc1=>?_
  .have hstep:=ZMO (z:=zn) (l:=bs.drop (i+1)) (show i<=9 by omega) hc1;refine again _ _ ⟨i+1,zn+(c.toNat % 128)*128 ^ i,ZAQ (by omega),by omega,rfl,by rw [hf,hdrop,hstep],λh9=>?_⟩ (by dsimp only; rw [ZAQ (by omega)]; omega);obtain ⟨z1,z2⟩:=Zai (i:=i) (d:=c.toNat % 128) (by omega) hzn (by omega);dsimp only;exact ⟨ZV7 (by omega) hzn z2,z1⟩
  ·have hc2:c<128:=by omega
   have hmod:c.toNat % 128=c.toNat:=by omega
   rw [hmod];refine ZN (λt h2=>h2=h'/\t=decide ((c=0/\0<i)\/(i=9/\1<c))) ?_ λJ2 hJ2=>?_
   .rintro t h2 ⟨rfl,rfl⟩;refine ZJ (λhbad=>?_) λhbad=>?_
    .have hv:ZAO bs=none:=ZHg (o:=none) hf (by rw [hdrop]; exact ZPA hc2 hbad);rw [ZDq hv] at hq; exact hq
    .have hv:ZAO bs=some (ZPz (zn+c.toNat*128 ^ i),i+1):=ZHg (o:=some (zn+c.toNat*128 ^ i,i+1)) hf (by rw [hdrop]; exact ZPo (by omega) hc2 hbad);rw [ZE8 hv] at hq;obtain ⟨z1,z2⟩:=ZaV (i:=i) (z:=zn) (d:=c.toNat) (by omega) hzn (by omega) (λh9=>by omega);rw [ZV7 (by omega) hzn z1];refine ZWS z2 ?_;rw [ZAQ (by omega)]; exact hq
   .have hd:∀ t:Bool,(t=true↔((c=0/\0<i)\/(i=9/\1<c)))->t=decide ((c=0/\0<i)\/(i=9/\1<c)):=by intro t ht;rw [Bool.eq_iff_iff,ht,decide_eq_true_iff]
    refine ZD (λe0=>?_) λe0=>?_
    .have e0:c=0:=by simpa using e0
     refine ZJ (λe1=>hJ2 _ _ ⟨rfl,hd _ (by simp; omega)⟩) λe1=>?_;refine ZD (λe2=>hJ2 _ _ ⟨rfl,hd _ ?_⟩) λe2=>hJ2 _ _ ⟨rfl,hd _ ?_⟩
     .simp only [beq_iff_eq] at e2; simp; omega
     .simp only [beq_eq_false_iff_ne] at e2; simp; omega
    .have e0:c≠0:=by simpa using e0
     refine ZD (λe2=>hJ2 _ _ ⟨rfl,hd _ ?_⟩) λe2=>hJ2 _ _ ⟨rfl,hd _ ?_⟩
     .simp only [beq_iff_eq] at e2; simp; omega
     .simp only [beq_eq_false_iff_ne] at e2; simp; omega
 .have him:i=m:=by dsimp only at hge; omega
  have hnone:ZA9 i zn (bs.drop i)=none:=by
   by_cases h10:i=10
   .rw [h10]; exact ZPS _ _
   .rw [List.drop_eq_nil_of_le (by omega)]; rfl
  have hv:ZAO bs=none:=ZHg (o:=none) hf hnone;rw [ZDq hv] at hq; exact hq
theorem ZMo (s:ByteArray) (b:UInt8):(s.push b).data.toList=s.data.toList++[b]:=by simp [ByteArray.push]
theorem ZIR:∀ (xs:List Int) (s:ByteArray),(xs.foldl (λs n=>s.push (UInt8.ofNat n.toNat)) s).data.toList=s.data.toList++xs.map λn=>UInt8.ofNat n.toNat
 | [],s=>by simp
 | x::xs,s=>by rw [List.foldl_cons,ZIR xs,ZMo]; simp
theorem ZIz (xs:List Int):(ZI9 xs).data.toList=xs.map λn=>UInt8.ofNat n.toNat:=by unfold ZI9; rw [ZIR]; rfl
theorem ZZk {x y:Int} (hx:0<=x/\x<256) (hy:0<=y/\y<256) (h:UInt8.ofNat x.toNat=UInt8.ofNat y.toNat):x=y:=by have:=congrArg UInt8.toNat h;simp only [UInt8.toNat_ofNat'] at this;omega
theorem ZRq:∀ {xs ys:List Int},Zz xs->Zz ys->(xs.map λn=>UInt8.ofNat n.toNat)=(ys.map λn=>UInt8.ofNat n.toNat)->xs=ys
 | [],[],_,_,_=>rfl
 | [],_::_,_,_,h=>by cases h
 | _::_,[],_,_,h=>by cases h
 | x::xs,y::ys,hx,hy,h=>by simp only [List.map_cons,List.cons.injEq] at h;rw [ZZk (hx x (by simp)) (hy y (by simp)) h.1,ZRq (λb hb=>hx b (by simp [hb])) (λb hb=>hy b (by simp [hb])) h.2]
theorem ZVm {xs ys:List Int} (hx:Zz xs) (hy:Zz ys):ZJ9 (ZI9 xs) (ZI9 ys)=decide (xs=ys):=by
 rw [Bool.eq_iff_iff,decide_eq_true_iff];constructor
 .intro h;have h:(ZI9 xs).toList=(ZI9 ys).toList:=by simpa [ZJ9] using h
  rw [ByteArray.toList_eq,ByteArray.toList_eq,ZIz,ZIz] at h;exact ZRq hx hy h
 .rintro rfl; exact ZOp _
def ZWa:Value:=.iface 369 (.agg #[])
theorem ZWj {p0:Sl} {g h:Hp} {bs:List Int} (hg:g.sub h) (r:Row (cI .u8) g p0 bs) (hb:Zz bs) (hcap:bs.length≤p0.cap) (hl:bs.length≤1000000) {Q:Int×Sl→Hp→Prop} {S:Value→Hp→Prop}
 (hq:∀ v k,ZAO bs=some (v,k)->Q (v,⟨Zm p0.a k p0.cap 1,p0.len-k,p0.cap-k⟩) h) (hs:ZAO bs=none->S ZWa h):
 ZEu TP 276 [Value.slice p0.a p0.len p0.cap] (ZW [cI .i64,cSl]) h Q S:=by
 refine c276 ?_;unfold F276;refine ZNt hg r hb hcap hl ?_;cases hv:ZAO bs with
 | none=>
   rw [ZDq hv];refine ZN (λ_ _=>False) (λ_ _ h=>h.elim) λJ hJ=>?_;exact Zh rfl (hs hv)
 | some x=>
   obtain ⟨v,k⟩:=x;obtain ⟨_,_,_,hk,_⟩:=ZCA hb hv;rw [ZE8 hv];refine ZN (λ_ h'=>h'=h) ?_ λJ hJ=>ZT rfl (hJ _ _ rfl);rintro _ h' rfl;refine ⟨Int.natCast_nonneg k,by have:=r.1; dsimp only; omega,?_⟩;rw [show ((v,(k:Int),true).2.1).toNat=k by simp];exact hq v k hv
theorem ZOV {g:Hp} {p:Sl} {bs:List Int} (r:Row (cI .u8) g p bs) (hcap:bs.length<=p.cap) {k:Nat} (hk:k<=bs.length):Row (cI .u8) g ⟨Zm p.a k p.cap 1,p.len-k,p.cap-k⟩ (bs.drop k):=by have hl:=r.1;have r1:=r.cut (k:=k) (m:=p.len) (cap':=p.cap-k) (by omega) (by omega) hcap rfl (z:=1) rfl;rwa [List.take_of_length_le (by simp; omega)] at r1
theorem ZSV {a b:Addr} {h:Hp} {K:Hp->Prop} (hk:K h):ZBw TP 275 [Value.pointer (some a),Value.pointer (some b)] none h K:=by refine c275_0 ?_;unfold F275_0;exact hk
theorem ZSL {b1 b2:Nat} {v1 v2:Value} {e1 e2:TypeId} {h:Hp} {l:List Hp} (o:On h (ob b1 [v1] e1::ob b2 [v2] e2::l)) {K:Hp->Prop} (hk:∀ h',On h' (ob b1 [Value.slice none 0 0] e1::ob b2 [Value.int .i64 2] e2::l)->K h'):
 ZBw TP 275 [Value.pointer (some ⟨b1,0,none⟩),Value.pointer (some ⟨b2,0,none⟩)] (some ZWa) h K:=by
 refine c275_1 ?_;unfold F275_1;refine ZN (λ_ h'=>h'=h) ?_ λJ hJ=>hJ _ _ rfl;rintro _ h' rfl;refine ZZ (vs':=[Value.slice none 0 0]) (cd:=cSl) (i:=0) (x:=(⟨none,0,0⟩:Sl)) o rfl rfl (Nat.le_refl 1) λh1 o1=>?_;refine ZZ (vs':=[Value.int .i64 2]) (cd:=cI .i64) (i:=0) (x:=(2:Int)) o1.swap rfl rfl (Nat.le_refl 1) λh2 o2=>?_;exact hk h2 o2.swap
theorem ZZo {p0:Sl} {n:Int} {g h:Hp} {l:List Hp} {bs:List Int} (o:On h l) (hg:g∈l) (r:Row (cI .u8) g p0 bs) (hb:Zz bs) (hcap:bs.length≤p0.cap) (hl:bs.length≤1000000) {Q:Sl×Int→Hp→Prop}
 (h0:ZJ8 bs n=none->∀ h',On h' l->Q (⟨none,0,0⟩,2) h') (h1:∀ ns,ZJ8 bs n=some ns->∀ s d h',On h' (d::l)->Own (cI .i64) d s ns->Q (s,0) h'):
 ZA TP 194 [Value.slice p0.a p0.len p0.cap,Value.int .i64 n] (ZW [cSl,cI .i64]) h Q:=by
 refine c194 ?_
 unfold F194
 refine ZH o λk1 h2 o2=>?_
 refine ZH o2 λk2 h3 o3=>?_
 have o3':On h3 (ob k1 [Value.slice none 0 0] 76::ob k2 [Value.int .i64 0] 192::Hp.emp::l):=(o3.emp.pull 2 rfl).pick [0,2,1] 3 (by decide) (by decide)
 -- what is left of a panic
 have fail:∀ {v1:Value} {d h':Hp},ZJ8 bs n=none->On h' (ob k1 [v1] 76::ob k2 [Value.int .i64 0] 192::d::l)->
  ZBw TP 275 [Value.pointer (some ⟨k1,0,none⟩),Value.pointer (some ⟨k2,0,none⟩)] (some ZWa) h' λh10=>
   ZC cSl ⟨k1,0,none⟩ h10 λs4=>ZC (cI .i64) ⟨k2,0,none⟩ h10 λn1=>Q (s4,n1) h10:=by
  intro v1 d h' hv o'
  refine ZSL o' λh5 o5=>?_
  refine ZI (x:=(⟨none,0,0⟩:Sl)) o5 0 rfl rfl ?_
  refine ZI (cd:=cI .i64) (x:=(2:Int)) o5 1 rfl rfl ?_
  exact h0 hv h5 o5.tail.tail.tail
 refine ZN (λ_ h'=>h'=h3/\¬n<0) ?_ λJ3 hJ3=>?_
 ·rintro _ h' ⟨rfl,hn⟩
  have hgv:ZJ8 bs n=ZLl n.toNat bs:=by unfold ZJ8; rw [if_neg hn]
  refine Zb (λs h'=>∃ (bs' ns:List Int) (sl:Sl) (d:Hp),Row (cI .u8) g s bs'/\Zz bs'/\bs'.length<=s.cap/\ns.length+bs'.length<=bs.length/\ns.length<=n.toNat/\ZLl n.toNat bs=(ZLl (n.toNat-ns.length) bs').map (ns++·)/\
   On h' (ob k1 [sv sl] 76::ob k2 [Value.int .i64 0] 192::d::l)/\Own (cI .i64) d sl ns) (λs=>s.len)
   ⟨bs,[],⟨none,0,0⟩,Hp.emp,r,hb,hcap,by simp,Nat.zero_le _,by simp,o3',Own.nil _⟩ ?_
  rintro J1 s h4 again ⟨bs',ns,sl,d,rs,hb',hcap',hlen,hnl,hget,o4,wd⟩
  have hsl:sl.len=ns.length:=wd.1
  have hsl2:s.len=bs'.length:=rs.1
  refine ZI (x:=sl) o4 0 rfl rfl ?_
  refine ZJ (λhlt=>?_) λhge=>?_
  .have hsucc:n.toNat-ns.length=(n.toNat-ns.length-1)+1:=by omega
   refine ZWj (o4.mem (by simp [hg])) rs hb' hcap' (by omega) (λv k hv=>?_) λhv=>?_
   .obtain ⟨_,_,_,hk,hk0⟩:=ZCA hb' hv
    refine ZI (x:=sl) o4 0 rfl rfl ?_
    refine ZH o4 λk3 h5 o5=>?_
    have rv:Row (cI .i64) (ob k3 [Value.int .i64 v] 2) ⟨some ⟨k3,0,none⟩,1,1⟩ [v]:=Ze rfl rfl
    have o5':=o5.pull 3 rfl
    refine ZU (s:=sl) (t:=⟨some ⟨k3,0,none⟩,1,1⟩) o5' rfl wd (by decide) rv (o5'.get (i:=1) rfl) (by unfold ZAR; simp; omega) λd6 p6 n6 m6 h6 o6 w6=>?_
    refine ZZ (vs':=[Value.slice p6 n6 m6]) (cd:=cSl) (i:=0) (x:=(⟨p6,n6,m6⟩:Sl)) (o6.pull 2 rfl) rfl rfl (Nat.le_refl 1) λh7 o7=>?_
    refine again _ _ ⟨bs'.drop k,ns++[v],⟨p6,n6,m6⟩,d6,ZOV rs hcap' hk,hb'.drop k,by simp; omega,by simp; omega,by simp; omega,?_,o7.pick [0,3,1] 4 (by decide) (by decide),w6⟩ (by dsimp only; omega)
    rw [hget,hsucc,ZBR hv,List.length_append,List.length_singleton,show n.toNat-(ns.length+1)=n.toNat-ns.length-1 by omega,Option.map_map]
    congr 1
    funext x
    simp
   .refine fail ?_ o4
    rw [hgv,hget,hsucc,ZEn hv]; rfl
  .have hz:n.toNat-ns.length=0:=by omega
   rw [hz] at hget
   refine ZN (λ_ h'=>h'=h4/\bs'=[]) ?_ λJ2 hJ2=>?_
   .rintro _ h5 ⟨rfl,hnil⟩
    refine ZI (x:=sl) o4 0 rfl rfl ?_
    refine ZZ (vs':=[sv sl]) (cd:=cSl) (i:=0) (x:=sl) o4 rfl rfl (Nat.le_refl 1) λh6 o6=>?_
    refine ZZ (vs':=[Value.int .i64 0]) (cd:=cI .i64) (i:=0) (x:=(0:Int)) o6.swap rfl rfl (Nat.le_refl 1) λh7 o7=>?_
    refine ZSV ?_
    refine ZI (x:=sl) o7 1 rfl rfl ?_
    refine ZI (cd:=cI .i64) (x:=(0:Int)) o7 0 rfl rfl ?_
    refine h1 ns ?_ sl d h7 o7.tail.tail wd
    rw [hgv,hget,hnil]
    simp [ZLl]
   .refine ZJ (λhpos=>?_) λhpos=>hJ2 _ _ ⟨rfl,List.length_eq_zero_iff.1 (by omega)⟩
    refine fail ?_ o4
    rw [hgv,hget]
    cases bs' with
    | nil=>simp at hsl2; omega
    | cons c bs'=>rfl
 .refine ZJ (λhn=>?_) λhn=>hJ3 _ _ ⟨rfl,hn⟩
  refine fail ?_ o3'
  unfold ZJ8; rw [if_pos hn]
theorem ZVF {l:List Int} (h:∀ n∈l,I64 n) {n:Int} (hn:n=l.length):ZJ8 (ZEi l) n=some l:=by subst hn; unfold ZJ8; rw [if_neg (by omega)]; exact ZOB l [] h
def mkF (n:Int) (m:Msg):ZP:=⟨n,m.Kind,m.F_0,m.F_1,m.F_2,m.F_3,m.F_4,m.F_5⟩
def ZDY {α:Type} (n:Nat) (l:List α):List α:=l.drop (l.length-n)
theorem ZFk {α:Type} (n:Nat) (l:List α):(ZDY n l).length=min n l.length:=by unfold ZDY; simp; omega
theorem ZPy {α:Type} (n:Nat) (l:List α) (x:α):ZDY (n+1) (l++[x])=ZDY n l++[x]:=by unfold ZDY;rw [List.length_append,List.length_singleton,List.drop_append_of_le_length (by omega)];congr 2; omega
def ZCX (p:Option Addr) (all:List ZP) (c:Hp):Prop:=
 ∃ b e sl d,p=some ⟨b,0,none⟩/\On c [ob b [sv sl,.int .i64 (all.length+1:Nat)] e,d]/\Own ZQ d sl (ZDY 64 all)
theorem ZXk {h:Hp} {l:List Hp} (o:On h l) {Q:Option Addr->Hp->Prop} (hq:∀ p c h',On h' (c::l)->ZCX p [] c->Q p h'):ZA TP 181 [] cP h Q:=by refine c181 ?_;unfold F181;refine ZH o λk1 h1 o1=>?_;have o2:On h1 ([ob k1 [Value.slice none 0 0,Value.int .i64 1] 355,Hp.emp]++l):=o1.emp.swap;obtain ⟨o3,o4⟩:=o2.joined;exact hq _ _ _ o3 ⟨k1,355,⟨none,0,0⟩,Hp.emp,rfl,o4,Own.nil _⟩
theorem ZSG {p0:Sl} {g h:Hp} {l:List Hp} {fs:List ZP} (o:On h l) {i:Nat} (hi:l[i]?=some g) (r:Row ZQ g p0 fs) (hl:fs.length<=1000000) {Q:Sl->Hp->Prop}
 (hq:∀ s d h',On h' (d::l)->Own ZQ d s fs->Q s h'):ZA TP 351 [Value.slice p0.a p0.len p0.cap] cSl h Q:=by
 refine c351 ?_;unfold F351;refine ZD (λhn=>?_) λ_=>?_
 .have ha:p0.a=none:=Option.isNone_iff_eq_none.1 hn;have:fs=[]:=by have:=r.2;rw [ha] at this;exact this
  subst this;exact hq _ Hp.emp h o.emp (Own.nil _)
 .refine ZH o λk1 h1 o1=>?_;have w0:Own ZQ (ob k1 [] 161) ⟨some ⟨k1,0,none⟩,0,0⟩ []:=ZBN (cd:=ZQ) (xs:=[]) (rest:=[]) rfl rfl rfl;exact ZU (g:=g) (s:=⟨some ⟨k1,0,none⟩,0,0⟩) (t:=p0) o1 rfl w0 (by decide) r (o1.get (i:=i+1) (by simpa using hi)) (by unfold ZAR; simp; omega) λc p k2 k3 h3 o3 w3=>hq _ c _ o3 w3
theorem ZPk {p0:Sl} {h:Hp} {d:Hp} {l:List Hp} {f:ZP} {fs:List ZP} (o:On h (d::l)) (w:Own ZQ d p0 (f::fs)) (hl:fs.length<=1000000) {Q:Sl->Hp->Prop}
 (hq:∀ s d' h',On h' (d'::l)->Own ZQ d' s fs->Q s h'):ZA TP 352 [Value.slice p0.a p0.len p0.cap,Value.int .i64 0,Value.int .i64 1] cSl h Q:=by
 have hlen:p0.len=fs.length+1:=w.1;have hcap:fs.length+1<=p0.cap:=w.le_cap (by decide);have ha0:p0.a≠none:=by intro ha;have:=w.2;rw [ha] at this;cases this.2
 refine c352 ?_;unfold F352;refine ⟨by omega,by omega,by omega,by omega,by omega,?_⟩;refine ZT (by decide) ?_;refine ⟨by omega,by omega,by omega,by omega,?_⟩;have w0:Own ZQ d ⟨p0.a,0,p0.cap⟩ []:=w.head rfl (Nat.zero_le _);have r1:Row ZQ d ⟨Zm p0.a 1 p0.cap 8,p0.len-1,p0.cap⟩ fs:=by have:=(w.row).cut (k:=1) (m:=p0.len) (cap':=p0.cap) (by omega) (by rw [hlen]; simp) (by simpa using hcap) rfl (z:=8) rfl;simpa [hlen] using this
 have e1:Zm p0.a 0 p0.cap 8=p0.a:=by
  unfold Zm;split
  .rfl
  .cases p0.a<;>rfl
 change ZX ZQ 161 64 (Zm p0.a 0 p0.cap 8) 0 p0.cap (Zm p0.a 1 p0.cap 8) (p0.len-1) h _;rw [e1];refine ZLU (s:=⟨p0.a,0,p0.cap⟩) (t:=⟨Zm p0.a 1 p0.cap 8,p0.len-1,p0.cap⟩) o rfl w0 r1 (o.get (i:=0) rfl) (by simp; omega) ha0 λd' h' o' w'=>?_;rw [List.nil_append] at w';have hz:([]:List ZP).length+fs.length=fs.length:=by simp
 rw [hz] at w' ⊢;refine ⟨by omega,by omega,by dsimp only; omega,?_⟩;refine ZGE (s:=⟨p0.a,fs.length,p0.cap⟩) (xs:=fs) o' rfl (by decide) w' (k:=(fs.length:Int).toNat) (m:=(p0.len:Int).toNat-(fs.length:Int).toNat) (by omega) (by dsimp only; omega) (by omega) rfl λc2 h2 o2 w2=>?_;exact hq _ c2 h2 o2 w2
theorem ZWi {p:Option Addr} {all:List ZP} {m:Msg} {c h:Hp} {l:List Hp} (o:On h (c::l)) (w:ZCX p all c) (hl:all.length≤1000000000) {Q:ZP→Hp→Prop}
 (hq:∀ c' h',On h' (c'::l)->ZCX p (all++[mkF (all.length+1:Nat) m]) c'->Q (mkF (all.length+1:Nat) m) h'):ZA TP 319 [Value.pointer p,ZAn.enc m] ZQ h Q:=by
 obtain ⟨b,e,sl,d,rfl,oc,wd⟩:=w;refine c319 ?_;unfold F319;dsimp only [ZR];have os:=o.split oc;refine ZT rfl ?_;refine ZI (x:=((all.length+1:Nat):Int)) os 0 rfl rfl ?_;refine ZI (x:=((all.length+1:Nat):Int)) os 0 rfl rfl ?_;refine ZZ (cd:=cI .i64) (i:=1) (vs':=[sv sl,.int .i64 (all.length+1+1:Nat)]) os rfl ?_ (Nat.le_refl 2) λh1 o1=>?_
 .rw [ZAQ (by omega)]; rfl
 refine ZI (x:=sl) o1 0 rfl rfl ?_;refine ZH o1 λk1 h2 o2=>?_;have rf:Row ZQ (ob k1 _ 161) ⟨some ⟨k1,0,none⟩,1,1⟩ [mkF (all.length+1:Nat) m]:=Ze (cd:=ZQ) (xs:=[mkF (all.length+1:Nat) m]) rfl rfl;have hll:(ZDY 64 all).length<=64:=by rw [ZFk]; omega
 have o2':=o2.pull 2 rfl;refine ZU (s:=sl) (t:=⟨some ⟨k1,0,none⟩,1,1⟩) o2' rfl wd (by decide) rf (o2'.get (i:=1) rfl) (by unfold ZAR; simp; omega) λd3 p3 k2 k3 h3 o3 w3=>?_;have o3':=o3.pull 2 rfl;refine ZZ (vs':=[Value.slice p3 k2 k3,.int .i64 (all.length+1+1:Nat)]) (cd:=cSl) (i:=0) (x:=(⟨p3,k2,k3⟩:Sl)) o3' rfl rfl (Nat.le_succ 1) λh4 o4=>?_;have hfin:∀ (s':Sl) (d' h':Hp),On h' (ob b [sv s',.int .i64 (all.length+1+1:Nat)] e::d'::l)->Own ZQ d' s' (ZDY 64 (all++[mkF (all.length+1:Nat) m]))->Q (mkF (all.length+1:Nat) m) h':=by intro s' d' h' o' w';obtain ⟨o5,o6⟩:=On.joined (cs:=[ob b [sv s',.int .i64 (all.length+1+1:Nat)] e,d']) (l:=l) o';refine hq _ _ o5 ⟨b,e,s',d',rfl,?_,w'⟩;rw [List.length_append];exact o6
 have hpush:=ZPy 63 all (mkF (all.length+1:Nat) m);refine ZN (λ_ h5=>∃ (s':Sl) (d':Hp),On h5 (ob b [sv s',.int .i64 (all.length+1+1:Nat)] e::d'::l)/\Own ZQ d' s' (ZDY 64 (all++[mkF (all.length+1:Nat) m]))) ?_ λJ hJ=>?_
 .rintro _ h5 ⟨s',d',o5,w5⟩;exact hfin s' d' h5 o5 w5
 ·have o4':On h4 (ob b [sv ⟨p3,k2,k3⟩,.int .i64 (all.length+1+1:Nat)] e::d3::l):=o4.sublist (by simp [sv]);refine ZI (x:=(⟨p3,k2,k3⟩:Sl)) o4' 0 rfl rfl ?_;have hk2:k2=(ZDY 64 all).length+1:=by have:=w3.1; simpa using this
  rw [ZFk] at hk2;refine ZJ (λhgt=>?_) λhle=>?_
  .dsimp only at hgt;have h64:64<=all.length:=by omega
   have hsplit:∃ f fs,ZDY 64 all=f::fs/\ZDY 63 all=fs:=by
    unfold ZDY;have hlt:all.length-64<all.length:=by omega
    refine ⟨all[all.length-64],all.drop (all.length-64+1),List.drop_eq_getElem_cons hlt,?_⟩;congr 1; omega
   obtain ⟨f,fs,hf1,hf2⟩:=hsplit;refine ZI (x:=(⟨p3,k2,k3⟩:Sl)) o4' 0 rfl rfl ?_;rw [hf1] at w3;have hfl:fs.length<=63:=by rw [<-hf2,ZFk]; omega
   refine ZPk (p0:=⟨p3,k2,k3⟩) (fs:=fs++[mkF (all.length+1:Nat) m]) o4'.swap w3 (by simp; omega) λs' d' h6 o6 w6=>?_;refine ZZ (vs':=[sv s',.int .i64 (all.length+1+1:Nat)]) (cd:=cSl) (i:=0) (x:=s') o6.swap rfl rfl (Nat.le_succ 1) λh7 o7=>?_;exact hJ _ _ ⟨s',d',o7,by rw [hpush,hf2]; exact w6⟩
  .dsimp only at hle;refine hJ _ _ ⟨⟨p3,k2,k3⟩,d3,o4',?_⟩;have:ZDY 64 (all++[mkF (all.length+1:Nat) m])=ZDY 64 all++[mkF (all.length+1:Nat) m]:=by unfold ZDY;rw [show all.length-64=0 by omega,show (all++[mkF (all.length+1:Nat) m]).length-64=0 by simp; omega];rfl
   rw [this];exact w3
def ZEE (n:Nat) (seq:Int):Prop:=seq<1\/seq>(n:Int)+1\/seq<(n:Int)+1-64
theorem ZNc {p:Option Addr} {all:List ZP} {seq:Int} {c h:Hp} {l:List Hp} (o:On h (c::l)) (w:ZCX p all c) (hl:all.length<=1000000000) (hs:-9223372036854775808<=seq/\seq<=9223372036854775807)
 {Q:Sl×Bool->Hp->Prop} (h0:ZEE all.length seq->Q (⟨none,0,0⟩,false) h)
 (h1:¬ZEE all.length seq->∀ s d' h',On h' (d'::c::l)->Own ZQ d' s (all.drop (seq-1).toNat)->Q (s,true) h'):ZA TP 316 [Value.pointer p,Value.int .i64 seq] (ZW [cSl,cB]) h Q:=by
 have w':=w;obtain ⟨b,e,sl,d,rfl,oc,wd⟩:=w;refine c316 ?_;unfold F316;dsimp only [ZR];have os:=o.split oc;have hsl:sl.len=min 64 all.length:=by rw [wd.1,ZFk]
 refine ZN (λt h'=>h'=h/\(t=true->ZEE all.length seq)/\(t=false->¬ZEE all.length seq)) ?_ λJ hJ=>?_
 .rintro t h' ⟨rfl,ht,hf⟩;refine ZD (λe=>h0 (ht e)) λe'=>?_;have hng:=hf e';unfold ZEE at hng;refine ZI (cd:=cSl) (x:=sl) os 0 rfl rfl ?_;refine ZI (cd:=cSl) (x:=sl) os 0 rfl rfl ?_;refine ZI (cd:=cI .i64) (x:=((all.length+1:Nat):Int)) os 0 rfl rfl ?_;rw [w64 (n:=((all.length+1:Nat):Int)-seq) (by omega) (by omega),w64 (by omega) (by omega)];have hk:((sl.len:Int)-(((all.length+1:Nat):Int)-seq)).toNat=sl.len-(all.length+1-seq.toNat):=by omega
  refine ⟨by omega,by omega,?_⟩;rw [hk];have hcap:=wd.le_cap (by decide);have hlast:(ZDY 64 all).length=sl.len:=wd.1.symm;have r1:=wd.row.cut (k:=sl.len-(all.length+1-seq.toNat)) (m:=sl.len) (cap':=sl.cap-(sl.len-(all.length+1-seq.toNat))) (by omega) (by omega) hcap rfl (z:=8) rfl;have hdrop:((ZDY 64 all).drop (sl.len-(all.length+1-seq.toNat))).take (sl.len-(sl.len-(all.length+1-seq.toNat)))=all.drop (seq-1).toNat:=by rw [List.take_of_length_le (by simp; omega)];unfold ZDY;rw [List.drop_drop];congr 1;omega
  rw [hdrop] at r1;have os2:=o.split oc;refine ZSG (p0:=⟨Zm sl.a (sl.len-(all.length+1-seq.toNat)) sl.cap 8,sl.len-(sl.len-(all.length+1-seq.toNat)),sl.cap-(sl.len-(all.length+1-seq.toNat))⟩) o (i:=0) rfl (r1.sub (oc.get (i:=1) rfl)) (by simp; omega) λs d' h2 o2 w2=>?_;exact h1 hng s d' h2 o2 w2
 .refine ZT rfl ?_;refine ZJ (λe=>hJ _ _ ⟨rfl,λ_=>.inl e,λh=>by cases h⟩) λe1=>?_;refine ZI (cd:=cI .i64) (x:=((all.length+1:Nat):Int)) os 0 rfl rfl ?_;refine ZJ (λe=>hJ _ _ ⟨rfl,λ_=>.inr (.inl (by omega)),λh=>by cases h⟩) λe2=>?_;refine ZI (cd:=cI .i64) (x:=((all.length+1:Nat):Int)) os 0 rfl rfl ?_;refine ZI (cd:=cSl) (x:=sl) os 0 rfl rfl ?_;rw [w64 (by omega) (by omega)];refine hJ _ _ ⟨rfl,λh=>?_,λh=>?_⟩
  .have h:=of_decide_eq_true h;unfold ZEE; omega
  .have h:=of_decide_eq_false h;unfold ZEE; omega
def ZFM (p:Option Addr) (n:Nat) (q:List (List Int)) (shut:Bool) (c:Hp):Prop:=
 ∃ b e r s r' ss ds,p=some ⟨b,0,none⟩/\On c (ob b [.chan (some r),.bool shut] e::Hp.one r (.chan n (List.toArray (ss.map sv)) false s r' false)::ds)/\ZQY ds ss q
theorem ZZh {n:Int} {h:Hp} {l:List Hp} (o:On h l) {Q:Option Addr->Hp->Prop} (h0:n<1\/256<n->Q none h) (hq:∀ p c h',1<=n->n<=256->On h' (c::l)->ZFM p n.toNat [] false c->Q p h'):
 ZA TP 106 [Value.int .i64 n] cP h Q:=by
 refine c106 ?_;unfold F106;refine ZN (λt h1=>h1=h/\(t=true->n<1\/256<n)/\(t=false->1<=n/\n<=256)) ?_ λJ hJ=>?_
 .rintro t h1 ⟨rfl,ht,hf⟩;refine ZD (λe=>h0 (ht e)) λe=>?_;obtain ⟨hn1,hn2⟩:=hf e;refine ⟨by omega,by omega,by omega,λk1 hk1=>?_⟩;have o1:=o.new hk1 (.chan n.toNat #[] false 0 0 false);refine ZH o1 λk2 h2 o2=>?_;have o3:On h2 ([ob k2 [.chan (some k1),.bool false] 281,Hp.one k1 (.chan n.toNat #[] false 0 0 false)]++l):=o2;obtain ⟨o4,o5⟩:=o3.joined;exact hq _ _ _ hn1 hn2 o4 ⟨k2,_,k1,0,0,[],[],rfl,o5,trivial⟩
 .refine ZJ (λe=>hJ _ _ ⟨rfl,λ_=>.inl e,λh=>by cases h⟩) λe=>hJ _ _ ⟨rfl,λh=>.inr (by simpa using h),λh=>⟨by omega,by simpa using h⟩⟩
theorem ZZq {p:Option Addr} {n:Nat} {q:List (List Int)} {shut:Bool} {c g h:Hp} {l:List Hp} {m:Sl} {bs:List Int} (o:On h (c::l)) (w:ZFM p n q shut c) {i:Nat} (hi:(c::l)[i]?=some g)
 (r:Row (cI .u8) g m bs) (hl:bs.length<=1000000) {Q:Bool->Hp->Prop}
 (hq:∀ c' h',On h' (c'::l)->ZFM p n (bif !shut&&decide (q.length<n) then q++[bs] else q) shut c'->Q (!shut&&decide (q.length<n)) h'):
 ZA TP 264 [Value.pointer p,Value.slice m.a m.len m.cap] cB h Q:=by
 have w':=w;obtain ⟨b,e,rb,s,r',ss,ds,rfl,oc,rr⟩:=w;refine c264 ?_;unfold F264;have os:=o.split oc;refine ZN (λt h1=>h1=h/\t=shut) ?_ λJ hJ=>?_
 ·rintro t h1 ⟨rfl,rfl⟩;refine ZD (fun e'=>?_) fun e'=>?_
  .subst e';exact hq c _ o (by simpa using w')
  .subst e';refine ZI (x:=some rb) os 0 rfl rfl ?_;refine ZOL o hi r hl λs1 d1 h2 o2 w2=>?_;have os2:=o2.swap.split oc;have hc:=os2.get (i:=1) rfl _ _ (ZNB _ _);refine ⟨n,(ss.map sv).toArray,s,r',hc,λhfull=>?_,λhroom=>?_⟩
   .have hlen:q.length=ss.length:=(ZQY.len rr).symm;have hnl:¬q.length<n:=by simp at hfull; omega
    have:=hq c h2 (o2.swap.sublist (List.Sublist.cons_cons c (List.sublist_cons_self _ _)));simp only [Bool.not_false,Bool.true_and,decide_eq_false hnl,cond_false] at this;exact this w'
   .have hlen:q.length=ss.length:=(ZQY.len rr).symm;have hnl:q.length<n:=by simp at hroom; omega
    have o3:=(os2.swap.upd (ZNB _ _) (.chan n ((ss.map sv).toArray.push (sv s1)) false (s+1) r' false))
    rw [ZH3] at o3;have o7:On _ (ob b [.chan (some rb),.bool false] e::Hp.one rb (.chan n ((ss.map sv).toArray.push (sv s1)) false (s+1) r' false)::(ds++d1::l)):=o3.swap;rw [show ds++d1::l=(ds++[d1])++l by simp] at o7;obtain ⟨o8,o9⟩:=On.joined (cs:=_::_::(ds++[d1])) (l:=l) o7;have:=hq _ _ o8;simp only [Bool.not_false,Bool.true_and,decide_eq_true hnl,cond_true] at this;refine this ⟨b,e,rb,s+1,r',ss++[s1],ds++[d1],rfl,?_,rr.push w2⟩
    .rw [List.map_append];simpa using o9
 .refine ZT rfl ?_;exact ZI (x:=shut) os 0 rfl rfl (hJ _ _ ⟨rfl,rfl⟩)
theorem ZW4 {p:Option Addr} {n:Nat} {q:List (List Int)} {shut:Bool} {c h:Hp} {l:List Hp} (o:On h (c::l)) (w:ZFM p n q shut c) {Q:Sl×Bool→Hp→Prop}
 (h0:q=[]->Q (⟨none,0,0⟩,false) h)
 (h1:∀ bs q' s d c' h',q=bs::q'->On h' (c'::d::l)->ZFM p n q' shut c'->Own (cI .u8) d s bs->Q (s,true) h'):ZA TP 188 [Value.pointer p] (ZW [cSl,cB]) h Q:=by
 obtain ⟨b,e,rb,s,r',ss,ds,rfl,oc,rr⟩:=w;refine c188 ?_;unfold F188;have os:=o.split oc;refine ZT rfl ?_;refine ZI (x:=some rb) os 0 rfl rfl ?_;have hc:=os.get (i:=1) rfl _ _ (ZNB _ _);refine ⟨n,ss.map sv,s,r',hc,?_⟩;match ds,ss,q,rr,os,hc,h0,h1 with
 | [],[],[],_,_,_,h0,_=>exact h0 rfl
 | d::ds,s1::ss,bs::q,rr,os,hc,_,h1=>
    refine ⟨s1,rfl,?_⟩;have o3:=(os.swap.upd (ZNB _ _) (.chan n (List.toArray (ss.map sv)) false s (r'+1) false))
    rw [ZH3] at o3;have o6:On _ (ob b [.chan (some rb),.bool shut] e::Hp.one rb (.chan n (List.toArray (ss.map sv)) false s (r'+1) false)::d::(ds++l)):=o3.swap;have o7:=o6.perm (l':=(ob b [.chan (some rb),.bool shut] e::Hp.one rb (.chan n (List.toArray (ss.map sv)) false s (r'+1) false)::ds)++(d::l)) (List.Perm.cons _ (List.Perm.cons _ List.perm_middle.symm));obtain ⟨o8,o9⟩:=o7.joined;exact h1 bs q s1 d _ _ rfl o8 ⟨b,e,rb,s,r'+1,ss,ds,rfl,o9,rr.2⟩ rr.1
def ZEd (bs:List Int):Int:=bs.foldl ZDz 0
def ZCw (n:Int):List Int:=[n / 16777216 % 256,n / 65536 % 256,n / 256 % 256,n % 256]
def ZBE (body:List Int):List Int:=197::(body.length:Int)::body
def ZBA (body:List Int):List Int:=ZBE body++ZCw (ZEd (ZBE body))
theorem ZCs (n:Int):(ZCw n).length=4:=rfl
theorem ZEa (body:List Int):(ZBA body).length=body.length+6:=by simp [ZBA,ZBE,ZCs]
theorem ZIj (n:Int):Zz (ZCw n):=by intro b hb;simp only [ZCw,List.mem_cons,List.not_mem_nil,or_false] at hb;rcases hb with rfl|rfl|rfl|rfl<;>omega
theorem ZF2 {body:List Int} (hb:Zz body) (hl:body.length<=80):Zz (ZBE body):=by
 intro b hm;simp only [ZBE,List.mem_cons] at hm;rcases hm with rfl|rfl|hm
 .omega
 .omega
 .exact hb b hm
theorem ZMg {body:List Int} (hb:Zz body) (hl:body.length<=80):Zz (ZBA body):=by
 intro b hm;rcases List.mem_append.1 hm with hm|hm
 .exact ZF2 hb hl b hm
 .exact ZIj _ b hm
theorem ZFz {bs:List Int} (hb:Zz bs):0<=ZEd bs/\ZEd bs<4294967296:=by obtain ⟨h1,h2,hi,h3,h4,h5⟩:=ZM8 bs 0 0 ZU2 hb;unfold ZEd;omega
def ZDu (x y:Int) (l:List Int):Option (List Int×Nat):=
 if x=197/\y<=80/\y.toNat+4<=l.length/\(l.drop y.toNat).take 4=ZCw (ZEd (197::y::l.take y.toNat)) then some (l.take y.toNat,y.toNat+6) else none
def ZCV:List Int->Option (List Int×Nat)
 | x::y::l=>ZDu x y l
 | _=>none
theorem ZOz {bs body:List Int} {k:Nat} (hb:Zz bs) (h:ZCV bs=some (body,k)):body.length≤80∧k=body.length+6∧bs.take k=ZBA body∧k≤bs.length:=by
 match bs,h with
 | x::y::l,h0=>
   have h1:ZDu x y l=some (body,k):=h0;clear h0;by_cases hc:x=197/\y<=80/\y.toNat+4<=l.length/\(l.drop y.toNat).take 4=ZCw (ZEd (197::y::l.take y.toNat))
   .rw [ZDu,if_pos hc] at h1;obtain ⟨rfl,h80,hlen,hsum⟩:=hc;cases h1;have hy:=hb y (by simp);have hl:(l.take y.toNat).length=y.toNat:=by rw [List.length_take]; omega
    refine ⟨by omega,by omega,?_,by simp; omega⟩;unfold ZBA ZBE;rw [hl,show ((y.toNat:Nat):Int)=y by omega,<-hsum];show (197::y::l).take (y.toNat+4+1+1)=_;rw [List.take_succ_cons,List.take_succ_cons,List.take_add,List.cons_append,List.cons_append]
   .rw [ZDu,if_neg hc] at h1;cases h1
theorem ZPK {body:List Int} (hl:body.length<=80) (rest:List Int):ZCV (ZBA body++rest)=some (body,body.length+6):=by
 show ZDu 197 (body.length:Int) ((body++ZCw (ZEd (ZBE body)))++rest)=_;unfold ZDu;have e1:(body++ZCw (ZEd (ZBE body))++rest).take body.length=body:=by rw [List.append_assoc,List.take_append_of_le_length (Nat.le_refl _),List.take_length]
 rw [if_pos]
 .simp only [Int.toNat_natCast]; rw [e1]
 .simp only [Int.toNat_natCast];refine ⟨trivial,by omega,by simp [ZCs],?_⟩;rw [e1,List.append_assoc,List.drop_append_of_le_length (Nat.le_refl _),List.drop_length,List.nil_append];exact List.take_append_of_le_length (by simp [ZCs])
theorem ZVB {n:Int} (k:Nat):IntKind.u8.wrap (ZBT .u32 n (k:Int))=n.fdiv (2 ^ (min k 32)) % 256:=by rw [ZHB]; rfl
theorem ZQS {n:Int} {h:Hp} {l:List Hp} (o:On h l) (hn:0≤n∧n<4294967296) {Q:Sl→Hp→Prop} (hq:∀ s d h',On h' (d::l)→Own (cI .u8) d s (ZCw n)→Q s h'):ZA TP 271 [Value.int .u32 n] cSl h Q:=by
 refine c271 ?_;unfold F271;refine ⟨by decide,by decide,by decide,by decide,?_⟩;refine ZH o λk1 h1 o1=>?_;have w1:Own (cI .u8) (ob k1 [Value.int .u8 0,Value.int .u8 0,Value.int .u8 0,Value.int .u8 0] 5) ⟨some ⟨k1,0,none⟩,4,4⟩ [0,0,0,0]:=ZBN (rest:=[]) rfl rfl rfl;refine Zb (λz h'=>∃ (i:Nat) (d:Hp) (xs:List Int),z=i/\i<=4/\xs.length=4/\xs.take i=(ZCw n).take i/\On h' (d::l)/\Own (cI .u8) d ⟨some ⟨k1,0,none⟩,4,4⟩ xs) (λz=>4-z.toNat) ⟨0,_,[0,0,0,0],rfl,Nat.zero_le _,rfl,rfl,o1,w1⟩ ?_;rintro J z h2 again ⟨i,d,xs,rfl,hle,hxl,hx,o2,w2⟩
 refine ZJ (λhlt=>?_) λhge=>?_
 .have hlt:i<4:=by omega
  have e1:IntKind.i64.wrap (8*IntKind.i64.wrap (3-(i:Int)))=((8*(3-i):Nat):Int):=by rw [w64 (n:=3-(i:Int)) (by omega) (by omega),w64 (by omega) (by omega)]; omega
  rw [e1];refine ⟨by omega,?_⟩;refine ZL (s:=⟨some ⟨k1,0,none⟩,4,4⟩) w2.row (by omega) (by omega) λa ha=>?_;refine ZBy (s:=⟨some ⟨k1,0,none⟩,4,4⟩) o2 rfl w2 ha (i:=i) (by omega) (by simp) λd3 h3 o3 w3=>?_;refine again _ _ ⟨i+1,d3,_,ZAQ (by omega),by omega,by rw [List.length_set]; exact hxl,?_,o3,w3⟩ (by rw [ZAQ (by omega)]; omega);have hv:(ZCw n)[i]?=some (IntKind.u8.wrap (ZBT .u32 n ((8*(3-i):Nat):Int))):=by
   rw [ZVB,Int.fdiv_eq_ediv_of_nonneg _ (Int.le_of_lt (Int.pow_pos (by decide)))];have:i=0\/i=1\/i=2\/i=3:=by omega
   rcases this with rfl|rfl|rfl|rfl
   .rfl
   .rfl
   .rfl
   .simp [ZCw]
  rw [List.take_add_one,List.take_add_one,hv,List.getElem?_set_self (by omega)];rw [List.take_set_of_le (Nat.le_refl _),hx]
 .have hi4:i=4:=by omega
  subst hi4;rw [List.take_of_length_le (by omega),List.take_of_length_le (by rw [ZCs]; omega)] at hx;subst hx;exact hq _ d h2 o2 w2
theorem ZXp {n:Int} {h:Hp} {l:List Hp} (o:On h l) (h0:0<=n) (hn:n<=1000000) {Q:Sl->Hp->Prop} (hq:∀ s d h',On h' (d::l)->Own (cI .u8) d s []->Q s h'):ZA TP 349 [Value.slice none 0 0,Value.int .i64 n] cSl h Q:=by
 refine c349 (p0:=⟨none,0,0⟩) ?_;unfold F349;have e:IntKind.i64.wrap (n-IntKind.i64.wrap (((0:Nat):Int)-((0:Nat):Int)))=n:=by rw [show IntKind.i64.wrap (((0:Nat):Int)-((0:Nat):Int))=0 by decide,w64 (by omega) (by omega)]; omega
 refine ZN (λ_ h'=>h'=h) ?_ λJ hJ=>ZJ (λhneg=>by omega) λ_=>hJ _ _ rfl;rintro _ h1 rfl;dsimp only;rw [e];refine ZJ (λhpos=>?_) λ_=>hq _ Hp.emp h1 o.emp (Own.nil _);refine ⟨by decide,by decide,?_⟩;refine ⟨h0,by unfold ZAR; omega,λhc=>?_,λhc=>⟨by unfold ZAR; simp; omega,rfl,?_⟩⟩
 .exfalso; simp at hc; omega
 .intro nc pad hnc hpad b hb;have o1:=o.new hb (.cells (ZG (cI .u8) []++pad).toArray 5 (0,0));refine ⟨by decide,by simp,?_⟩;have ec:Zm (some (⟨b,0,none⟩:Addr)) 0 nc 1=some ⟨b,0,none⟩:=by unfold Zm; split<;>rfl
  have hz:(((0:Nat):Int)).toNat=0:=rfl;simp only [hz];rw [ec];refine hq _ _ _ o1 ?_;refine ZBN (cd:=cI .u8) (xs:=[]) (rest:=pad) rfl rfl ?_;rw [hpad]; simp
theorem ZSl {p0:Sl} {g h:Hp} {l:List Hp} {ss:List Sl} {bss:List (List Int)} (o:On h l) (hg:g∈l) (r:Row cSl g p0 ss) (rr:∀ (i:Nat) (s:Sl) (bs:List Int),ss[i]?=some s→bss[i]?=some bs→∃ c∈l,Row (cI .u8) c s bs) (hlen:ss.length=bss.length) (hl:bss.flatten.length≤1000000) (hs:ss.length≤1000000) {Q:Sl→Hp→Prop}
 (hq:∀ s d h',On h' (d::l)->Own (cI .u8) d s bss.flatten->Q s h'):ZA TP 314 [Value.slice p0.a p0.len p0.cap] cSl h Q:=by
 refine c314 ?_;unfold F314;have hpl:=r.1;have part:∀ i,i<=bss.length->(bss.take i).flatten.length<=1000000:=by intro i hi;have:=congrArg List.length (congrArg List.flatten (List.take_append_drop i bss));rw [List.flatten_append,List.length_append] at this;omega
 have step:∀ i bs,bss[i]?=some bs->(bss.take (i+1)).flatten=(bss.take i).flatten++bs:=by intro i bs hi;rw [List.take_add_one,hi];simp
 refine Zb (λz h'=>∃ i:Nat,z.2=i/\i<=ss.length/\z.1=((bss.take i).flatten.length:Nat)/\h'=h) (λz=>ss.length-z.2.toNat) ⟨0,rfl,Nat.zero_le _,rfl,rfl⟩ ?_;rintro J ⟨x,z⟩ h' again ⟨i,hz,hle,hx,rfl⟩
 dsimp only at hz hx;subst hz hx;refine ZJ (λhlt=>?_) λhge=>?_
 .dsimp only at hlt;have hlt:i<ss.length:=by omega
  have hi:ss[i]?=some ss[i]:=List.getElem?_eq_getElem hlt;have hib:bss[i]?=some (bss[i]'(by omega)):=List.getElem?_eq_getElem (by omega);obtain ⟨c,hc,rc⟩:=rr i _ _ hi hib;have hp:=part (i+1) (by omega);have hs':=step i _ hib;rw [hs',List.length_append] at hp;have e:IntKind.i64.wrap ((((bss.take i).flatten.length:Nat):Int)+((ss[i]).len:Int))=(((bss.take (i+1)).flatten.length:Nat):Int):=by rw [rc.1,w64 (by omega) (by omega),hs',List.length_append]; omega
  refine ZN (λy h2=>h2=h'/\y=(((bss.take (i+1)).flatten.length:Nat):Int)) ?_ λJ2 hJ2=>?_
  .rintro y h2 ⟨rfl,rfl⟩;exact again _ _ ⟨i+1,ZAQ (by omega),by omega,rfl,rfl⟩ (by dsimp only; rw [ZAQ (by omega)]; omega)
  .refine ZL r (Int.natCast_nonneg i) (by dsimp only; omega) λa ha=>ZO r (o.mem hg) rfl ha (i:=i) hi (by simp) ?_;dsimp only;rw [e];exact ZJ (λhneg=>by omega) λ_=>hJ2 _ _ ⟨rfl,rfl⟩
 .dsimp only at hge;have hil:i=ss.length:=by omega
  subst hil;refine ZXp o (by dsimp only; omega) (by dsimp only; have:=part ss.length (by omega); omega) λs1 d1 h1 o1 w1=>?_;refine Zb (λz h'=>∃ (i:Nat) (d:Hp),z.2=i/\i<=ss.length/\On h' (d::l)/\Own (cI .u8) d z.1 (bss.take i).flatten) (λz=>ss.length-z.2.toNat) ⟨0,d1,rfl,Nat.zero_le _,o1,w1⟩ ?_;rintro J3 ⟨s,z⟩ h2 again2 ⟨j,d,hz,hle2,o2,w2⟩;dsimp only at hz w2;subst hz;refine ZJ (λhlt=>?_) λhge2=>?_
  .dsimp only at hlt;have hlt:j<ss.length:=by omega
   have hi:ss[j]?=some ss[j]:=List.getElem?_eq_getElem hlt;have hib:bss[j]?=some (bss[j]'(by omega)):=List.getElem?_eq_getElem (by omega);obtain ⟨c,hc,rc⟩:=rr j _ _ hi hib;have hp:=part (j+1) (by omega);have hs':=step j _ hib;rw [hs',List.length_append] at hp;refine ZL r (Int.natCast_nonneg j) (by dsimp only; omega) λa ha=>ZO r (o2.mem (by simp [hg])) rfl ha (i:=j) hi (by simp) ?_;refine ZU (g:=c) (s:=s) (t:=ss[j]) o2 rfl w2 (by decide) rc (o2.mem (by simp [hc])) (by unfold ZAR; omega) λd3 p3 n3 m3 h3 o3 w3=>?_;refine again2 _ _ ⟨j+1,d3,ZAQ (by omega),by omega,o3,?_⟩ (by dsimp only; rw [ZAQ (by omega)]; omega);rw [hs']; exact w3
  .dsimp only at hge2;have hjl:j=bss.length:=by omega
   subst hjl;rw [List.take_length] at w2;exact hq _ d h2 o2 w2
theorem ZRV {n:Nat} (h:n<=80):IntKind.u8.wrap ((n:Nat):Int)=(n:Int):=by rw [ZHB]; omega
theorem ZWF {p0:Sl} {g h:Hp} {l:List Hp} {body:List Int} (o:On h l) (hg:g∈l) (r:Row (cI .u8) g p0 body) (hb:Zz body) (hl:body.length<=1000000) {Q:Sl×Bool->Hp->Prop}
 (h0:80<body.length->Q (⟨none,0,0⟩,false) h) (h1:body.length<=80->∀ s d h',On h' (d::l)->Own (cI .u8) d s (ZBA body)->Q (s,true) h'):ZA TP 262 [Value.slice p0.a p0.len p0.cap] (ZW [cSl,cB]) h Q:=by
 refine c262 ?_;unfold F262;have hlen:=r.1;refine ZJ (λhgt=>h0 (by omega)) λhle=>?_;have h80:body.length<=80:=by omega
 rw [hlen,ZRV h80];refine ZH o λk1 h2 o2=>?_;refine ZH o2 λk2 h3 o3=>?_;have ra:Row (cI .u8) (ob k1 [Value.int .u8 197,Value.int .u8 (body.length:Int)] 5) ⟨some ⟨k1,0,none⟩,2,2⟩ [197,(body.length:Int)]:=Ze rfl rfl;have rp:Row (cI .u8) g ⟨p0.a,body.length,p0.cap⟩ body:=by rw [<-hlen]; exact r
 have r2:Row cSl (ob k2 _ 85) ⟨some ⟨k2,0,none⟩,2,2⟩ [⟨some ⟨k1,0,none⟩,2,2⟩,⟨p0.a,body.length,p0.cap⟩]:=Ze (cd:=cSl) (xs:=[⟨some ⟨k1,0,none⟩,2,2⟩,⟨p0.a,body.length,p0.cap⟩]) rfl rfl;refine ZZV (p0:=⟨some ⟨k2,0,none⟩,2,2⟩) (g:=h3) (ss:=[⟨some ⟨k1,0,none⟩,2,2⟩,⟨p0.a,body.length,p0.cap⟩]) (bss:=[[197,(body.length:Int)],body]) (Hp.sub_refl h3) (r2.sub (o3.get (i:=0) rfl)) ⟨ra.sub (o3.get (i:=1) rfl),rp.sub (o3.mem (by simp [hg])),trivial⟩ (by simp) ?_ ?_
 .intro bs hbs;simp only [List.mem_cons,List.not_mem_nil,or_false] at hbs;rcases hbs with rfl|rfl
  .simp
  .omega
 have hbody:([[197,(body.length:Int)],body].flatten).foldl ZDz 0=ZEd (ZBE body):=by simp [ZEd,ZBE]
 rw [hbody];refine ZQS o3 (ZFz (ZF2 hb h80)) λs4 d4 h4 o4 w4=>?_;refine ZH o4 λk5 h5 o5=>?_;have r5:Row cSl (ob k5 _ 85) ⟨some ⟨k5,0,none⟩,3,3⟩ [⟨some ⟨k1,0,none⟩,2,2⟩,⟨p0.a,body.length,p0.cap⟩,s4]:=Ze (cd:=cSl) (xs:=[⟨some ⟨k1,0,none⟩,2,2⟩,⟨p0.a,body.length,p0.cap⟩,s4]) rfl rfl;refine ZSl (p0:=⟨some ⟨k5,0,none⟩,3,3⟩) (bss:=[[197,(body.length:Int)],body,ZCw (ZEd (ZBE body))]) o5 (List.mem_cons_self ..) r5 ?_ rfl ?_ (by simp) λs6 d6 h6 o6 w6=>?_
 .intro i s bs hs hbs;match i,hs,hbs with
  | 0,hs,hbs=>cases hs; cases hbs; exact ⟨_,by simp,ra⟩
  | 1,hs,hbs=>cases hs; cases hbs; exact ⟨g,by simp [hg],rp⟩
  | 2,hs,hbs=>cases hs; cases hbs; exact ⟨d4,by simp,w4.row⟩
  | i+3,hs,hbs=>cases hs
 .simp [ZCs]; omega
 have hfr:[[197,(body.length:Int)],body,ZCw (ZEd (ZBE body))].flatten=ZBA body:=by simp [ZBA,ZBE]
 rw [hfr] at w6;exact h1 h80 s6 d6 h6 (o6.pick [0] 5 (by decide) (by decide)) w6
theorem ZMM (n:Int) (k:Nat) (hk:k<=32):ZBT .u32 n (k:Int)=n / (2 ^ k:Nat):=by show n.fdiv (2 ^ (min ((k:Int)).toNat 32))=_;rw [show min ((k:Int)).toNat 32=k by omega,Int.fdiv_eq_ediv_of_nonneg _ (Int.le_of_lt (Int.pow_pos (by decide)))];simp
theorem ZT8 {p0:Sl} {g h:Hp} {l:List Hp} {body:List Int} (o:On h l) (hg:g∈l) (r:Row (cI .u8) g p0 body) (hb:Zz body) (hl:body.length<=1000000) {Q:Sl×Bool->Hp->Prop}
 (h0:80<body.length->Q (⟨none,0,0⟩,false) h) (h1:body.length<=80->∀ s d h',On h' (d::l)->Own (cI .u8) d s (ZBA body)->Q (s,true) h'):ZA TP 112 [Value.slice p0.a p0.len p0.cap] (ZW [cSl,cB]) h Q:=by
 refine c112 ?_;unfold F112;have hlen:=r.1;refine ZJ (λhgt=>h0 (by omega)) λhle=>?_;have h80:body.length<=80:=by omega
 rw [hlen,ZRV h80];refine ZH o λk1 h2 o2=>?_;have w2:Own (cI .u8) (ob k1 [Value.int .u8 197,Value.int .u8 (body.length:Int)] 5) ⟨some ⟨k1,0,none⟩,2,2⟩ [197,(body.length:Int)]:=ZBN (rest:=[]) rfl rfl rfl;have rp:Row (cI .u8) g ⟨p0.a,body.length,p0.cap⟩ body:=by rw [<-hlen]; exact r
 refine ZU (g:=g) (s:=⟨some ⟨k1,0,none⟩,2,2⟩) (t:=⟨p0.a,body.length,p0.cap⟩) o2 rfl w2 (by decide) rp (o2.mem (by simp [hg])) (by unfold ZAR; simp; omega) λd3 p3 n3 m3 h3 o3 w3=>?_;have w3:Own (cI .u8) d3 ⟨p3,n3,m3⟩ (ZBE body):=w3;have hbl:(ZBE body).length=body.length+2:=by simp [ZBE]
 refine ZYj (p0:=⟨p3,n3,m3⟩) (o3.get (i:=0) rfl) w3.row (by omega) ?_;have hs:=ZFz (ZF2 hb h80);have hsv:(ZBE body).foldl ZDz 0=ZEd (ZBE body):=rfl;rw [hsv];refine ⟨by decide,by decide,by decide,?_⟩;refine ZH o3 λk4 h4 o4=>?_;have e4:[Value.int .u8 (IntKind.u8.wrap (ZBT .u32 (ZEd (ZBE body)) 24)),Value.int .u8 (IntKind.u8.wrap (ZBT .u32 (ZEd (ZBE body)) 16)),Value.int .u8 (IntKind.u8.wrap (ZBT .u32 (ZEd (ZBE body)) 8)),Value.int .u8 (IntKind.u8.wrap (ZEd (ZBE body)))]=
  ZG (cI .u8) (ZCw (ZEd (ZBE body))):=by
  have a1:ZBT .u32 (ZEd (ZBE body)) 24=ZEd (ZBE body) / 16777216:=ZMM _ 24 (by decide)
  have a2:ZBT .u32 (ZEd (ZBE body)) 16=ZEd (ZBE body) / 65536:=ZMM _ 16 (by decide)
  have a3:ZBT .u32 (ZEd (ZBE body)) 8=ZEd (ZBE body) / 256:=ZMM _ 8 (by decide)
  rw [a1,a2,a3,ZHB,ZHB,ZHB,ZHB]
  rfl
 rw [e4] at o4;have r4:Row (cI .u8) (ob k4 (ZG (cI .u8) (ZCw (ZEd (ZBE body)))) 5) ⟨some ⟨k4,0,none⟩,4,4⟩ (ZCw (ZEd (ZBE body))):=Ze rfl rfl;refine ZU (s:=⟨p3,n3,m3⟩) (t:=⟨some ⟨k4,0,none⟩,4,4⟩) o4.swap rfl w3 (by decide) r4 (o4.get (i:=0) rfl) (by unfold ZAR; rw [hbl,ZCs]; omega) λd5 p5 n5 m5 h5 o5 w5=>?_;exact h1 h80 _ d5 h5 (o5.sublist (by simp)) w5
theorem ZLz {y:Int} {l:List Int} (hy:0<=y/\y<=80):ZCV (197::y::l)=if y.toNat+4<=l.length/\(l.drop y.toNat).take 4=ZCw (ZEd (197::y::l.take y.toNat)) then some (l.take y.toNat,y.toNat+6) else none:=by
 show ZDu 197 y l=_;unfold ZDu;by_cases hc:y.toNat+4<=l.length/\(l.drop y.toNat).take 4=ZCw (ZEd (197::y::l.take y.toNat))
 .rw [if_pos hc,if_pos ⟨rfl,hy.2,hc.1,hc.2⟩]
 .rw [if_neg hc,if_neg (λh=>hc h.2.2)]
theorem ZG6 {x y:Int} {l:List Int} (h:x≠197\/80<y):ZCV (x::y::l)=none:=by show ZDu x y l=_;unfold ZDu;rw [if_neg (by rintro ⟨h1,h2,_⟩; omega)]
theorem ZPp {bs:List Int} (h:bs.length<2):ZCV bs=none:=by
 match bs,h with
 | [],_=>rfl
 | [_],_=>rfl
 | _::_::_,h=>simp at h; omega
theorem ZWw {p0:Sl} {g h:Hp} {l:List Hp} {bs:List Int} (o:On h l) (hg:g∈l) (r:Row (cI .u8) g p0 bs) (hb:Zz bs) (hcap:bs.length≤p0.cap) (hl:bs.length≤1000000) {Q:Sl×Int×Bool→Hp→Prop}
 (h0:ZCV bs=none->∀ h',On h' l->Q (⟨none,0,0⟩,0,false) h') (h1:∀ body k,ZCV bs=some (body,k)->∀ s d h',On h' (d::l)->Own (cI .u8) d s body->Q (s,(k:Int),true) h'):
 ZA TP 190 [Value.slice p0.a p0.len p0.cap] (ZW [cSl,cI .i64,cB]) h Q:=by
 refine c190 ?_;unfold F190;have hlen:=r.1;have hgs:g.sub h:=o.mem hg;refine ZN (λt h'=>h'=h/\(t=true->ZCV bs=none)/\(t=false->∃ y t,bs=197::y::t/\y<=80)) ?_ λJ2 hJ2=>?_
 ·rintro t h' ⟨rfl,ht,hf⟩;refine ZD (fun e=>h0 (ht e) _ o) fun e=>?_;obtain ⟨y,t,hbs,hy80⟩:=hf e;subst hbs;have hy:=hb y (by simp);obtain ⟨Y,rfl⟩:∃ Y:Nat,y=Y:=⟨y.toNat,by omega⟩
  have hfg:=ZLz (y:=(Y:Int)) (l:=t) ⟨by omega,hy80⟩;rw [Int.toNat_natCast] at hfg;have hll:p0.len=t.length+2:=by rw [hlen]; rfl
  have hcap':t.length+2<=p0.cap:=by simpa using hcap
  refine ZL r (by omega) (by simp; omega) λa ha=>ZO r hgs rfl ha (i:=1) (m:=1) rfl rfl ?_;have e1:IntKind.i64.wrap ((Y:Nat):Int)=(Y:Int):=w64 (by omega) (by omega);have e2:IntKind.i64.wrap (2+((Y:Nat):Int))=((Y+2:Nat):Int):=by rw [w64 (by omega) (by omega)]; omega
  have e3:IntKind.i64.wrap (((Y+2:Nat):Int)+4)=((Y+6:Nat):Int):=by rw [w64 (by omega) (by omega)]; omega
  simp only [e1,e2,e3];refine ZN (λt2 h2=>(∃ la,On h2 (la++l))/\t2=decide (¬(Y+4<=t.length/\(t.drop Y).take 4=ZCw (ZEd (197::(Y:Int)::t.take Y))))) ?_ λJ1 hJ1=>?_
  .rintro t2 h2 ⟨⟨la,o2⟩,rfl⟩;have o2':On h2 l:=o2.sublist (List.sublist_append_right _ _);refine ZJ (λhno=>?_) λhyes=>?_
   .rw [if_neg hno] at hfg;exact h0 hfg _ o2'
   .have hyes:=Decidable.not_not.1 hyes;rw [if_pos hyes] at hfg;refine ⟨by omega,by omega,by omega,?_⟩;have rc:=r.cut (k:=2) (m:=Y+2) (cap':=p0.cap-2) (by omega) (by simp; omega) hcap rfl (z:=1) rfl;obtain ⟨gi,hgi⟩:=List.getElem?_of_mem hg;have hdr:(((197:Int)::(Y:Int)::t).drop 2).take (Y+2-2)=t.take Y:=by simp
    rw [hdr] at rc;have hz1:((((Y+2:Nat):Int)).toNat)=Y+2:=by omega
    have hz2:((2:Int)).toNat=2:=rfl;simp only [hz1,hz2];refine ZOL (p0:=⟨Zm p0.a 2 p0.cap 1,Y+2-2,p0.cap-2⟩) o2' hgi rc (by simp; omega) λs3 d3 h3 o3 w3=>?_;exact h1 _ _ hfg s3 d3 h3 o3 w3
  ·refine ZJ (fun hshort=>hJ1 _ _ ⟨⟨[],o⟩,?_⟩) fun hlong=>?_
   .rw [decide_eq_true];rintro ⟨h4,_⟩;omega
   .refine ⟨by omega,by omega,?_⟩;refine ⟨by omega,by omega,by omega,?_⟩;have hz0:((((Y+2:Nat):Int)).toNat)=Y+2:=by omega
    have hz6:((((Y+6:Nat):Int)).toNat)=Y+6:=by omega
    simp only [hz0,hz6];have ra:=r.cut (k:=0) (m:=Y+2) (cap':=p0.cap-0) (by omega) (by simp; omega) hcap rfl (z:=1) rfl;have rb:=r.cut (k:=Y+2) (m:=Y+6) (cap':=p0.cap-(Y+2)) (by omega) (by simp; omega) hcap rfl (z:=1) rfl;have ea:(((197:Int)::(Y:Int)::t).drop 0).take (Y+2-0)=197::(Y:Int)::t.take Y:=by simp
    have eb:(((197:Int)::(Y:Int)::t).drop (Y+2)).take (Y+6-(Y+2))=(t.drop Y).take 4:=by rw [show Y+6-(Y+2)=4 by omega]; rfl
    rw [ea] at ra;rw [eb] at rb;refine ZH o λk7 h4 o4=>?_;refine ZZr (s:=⟨Zm p0.a 0 p0.cap 1,Y+2-0,p0.cap-0⟩) o4 0 rfl (ra.sub (o4.mem (by simp [hg]))) (by simp; omega) ?_;have hby:Zz (197::(Y:Int)::t.take Y):=by
     intro b hb';simp only [List.mem_cons] at hb';rcases hb' with rfl|rfl|hb'
     .omega
     .omega
     .exact hb b (by simp [List.mem_of_mem_take hb'])
    have hs:=ZFz hby;have hsv:(197::(Y:Int)::t.take Y).foldl ZDz 0=ZEd (197::(Y:Int)::t.take Y):=rfl;rw [hsv];refine ZQS o4 hs λs5 d5 h5 o5 w5=>?_;refine c270 (p1:=⟨Zm p0.a (Y+2) p0.cap 1,Y+6-(Y+2),p0.cap-(Y+2)⟩) ?_;unfold F270;refine ZTD w5.row (o5.get (i:=0) rfl) (ZTD rb (o5.mem (by simp [hg])) ?_);refine hJ1 _ _ ⟨⟨[d5,_],o5⟩,?_⟩;have hbt:Zz ((t.drop Y).take 4):=by intro b hb';exact hb b (by simp [List.mem_of_mem_drop (List.mem_of_mem_take hb')])
    rw [ZVm (ZIj _) hbt];rw [Bool.eq_iff_iff];simp only [Bool.not_eq_true',decide_eq_false_iff_not,decide_eq_true_iff];constructor
    .rintro hne ⟨_,he⟩; exact hne he.symm
    .intro hne he; exact hne ⟨by omega,he.symm⟩
 ·refine ZJ (fun hshort=>hJ2 _ _ ⟨rfl,fun _=>ZPp (by omega),fun h=>by cases h⟩) fun hlong=>?_;match bs,r,hb,hcap,hl,h0,h1,hlen,hJ2 with
  | [],_,_,_,_,_,_,hlen,_=>simp at hlen; omega
  | [_],_,_,_,_,_,_,hlen,_=>simp at hlen; omega
  | x::y::t,r,hb,hcap,hl,h0,h1,hlen,hJ2=>
    refine ZL r (by omega) (by simp; omega) λa ha=>ZO r hgs rfl ha (i:=0) (m:=0) rfl rfl ?_;refine ZD (λhne=>?_) λheq=>?_
    .have hne:x≠197:=by simpa using hne
     exact hJ2 _ _ ⟨rfl,λ_=>ZG6 (.inl hne),λh=>by cases h⟩
    .have heq:x=197:=by simpa using heq
     subst heq;refine ZL r (by omega) (by simp; omega) λa ha=>ZO r hgs rfl ha (i:=1) (m:=1) rfl rfl ?_;refine hJ2 _ _ ⟨rfl,λh=>ZG6 (.inr (by have:=of_decide_eq_true h; omega)),λh=>⟨y,t,rfl,by have:=of_decide_eq_false h; omega⟩⟩
def ZLj:List Int->Bool
 | []=>false
 | [x]=>x==197
 | x::y::t=>x==197&&decide (y<=80)&&decide ((t.length:Int)<y+4)
def ZEj:Nat→List Int→List (List Int)×List Int×Nat
 | 0,l=>([],l,0)
 | n+1,l=>if l=[]\/ZLj l=true then ([],l,0) else
   match ZCV l with
   | some (b,k)=>(b::(ZEj n (l.drop k)).1,(ZEj n (l.drop k)).2.1,(ZEj n (l.drop k)).2.2)
   | none=>((ZEj n (l.drop 1)).1,(ZEj n (l.drop 1)).2.1,(ZEj n (l.drop 1)).2.2+1)
theorem ZEW {l b:List Int} {k:Nat} (h:ZCV l=some (b,k)):6≤k∧k≤l.length:=by
 match l,h with
 | x::y::t,h0=>
   have h1:ZDu x y t=some (b,k):=h0;unfold ZDu at h1;by_cases hc:x=197/\y<=80/\y.toNat+4<=t.length/\(t.drop y.toNat).take 4=ZCw (ZEd (197::y::t.take y.toNat))
   .rw [if_pos hc] at h1;cases h1;have:=hc.2.2.1;refine ⟨by omega,by simp; omega⟩
   .rw [if_neg hc] at h1; cases h1
theorem ZJs:∀ (n m:Nat) (l:List Int),l.length≤n→l.length≤m→ZEj n l=ZEj m l
 | 0,0,_,_,_=>rfl
 | 0,m+1,l,h,_=>by
   obtain rfl:l=[]:=List.length_eq_zero_iff.1 (by omega);rfl
 | n+1,0,l,_,h=>by
   obtain rfl:l=[]:=List.length_eq_zero_iff.1 (by omega);rfl
 | n+1,m+1,l,h1,h2=>by
   unfold ZEj;by_cases hc:l=[]\/ZLj l=true
   .rw [if_pos hc,if_pos hc]
   ·rw [if_neg hc,if_neg hc];have hl:0<l.length:=by
     cases l with
     | nil=>exact absurd (.inl rfl) hc
     | cons a b=>simp
    cases hf:ZCV l with
    | none=>
      dsimp only;rw [ZJs n m (l.drop 1) (by simp; omega) (by simp; omega)]
    | some r=>
      obtain ⟨b,k⟩:=r;have:=ZEW hf;dsimp only;rw [ZJs n m (l.drop k) (by simp; omega) (by simp; omega)]
def Zx (l:List Int):List (List Int)×List Int×Nat:=ZEj l.length l
theorem ZS3:Zx []=([],[],0):=rfl
theorem ZK3 {l:List Int} (h:ZLj l=true):Zx l=([],l,0):=by
 unfold Zx;cases l with
 | nil=>rfl
 | cons a b=>
   show ZEj (b.length+1) (a::b)=_;unfold ZEj;rw [if_pos (Or.inr h)]
theorem ZF1 {l b:List Int} {k:Nat} (h:ZLj l=false) (hf:ZCV l=some (b,k)):Zx l=(b::(Zx (l.drop k)).1,(Zx (l.drop k)).2.1,(Zx (l.drop k)).2.2):=by
 have hp:=ZEW hf;cases l with
 | nil=>simp at hp; omega
 | cons a t=>
   have e:Zx (a::t)=ZEj (t.length+1) (a::t):=rfl;rw [e];unfold ZEj
   rw [if_neg (by rintro (h'|h'); · cases h'
                  .rw [h] at h'; cases h'),hf]
   dsimp only;have:=ZJs t.length ((a::t).drop k).length ((a::t).drop k) (by simp at hp ⊢; omega) (Nat.le_refl _);rw [this]; rfl
theorem ZIm {l:List Int} (h0:l≠[]) (h:ZLj l=false) (hf:ZCV l=none):Zx l=((Zx (l.drop 1)).1,(Zx (l.drop 1)).2.1,(Zx (l.drop 1)).2.2+1):=by
 cases l with
 | nil=>exact absurd rfl h0
 | cons a t=>
   have e:Zx (a::t)=ZEj (t.length+1) (a::t):=rfl;rw [e];unfold ZEj
   rw [if_neg (by rintro (h'|h'); · cases h'
                  .rw [h] at h'; cases h'),hf]
   rfl
theorem ZKY {body:List Int} (hl:body.length<=80) (rest:List Int):ZLj (ZBA body++rest)=false:=by show ((197:Int)==197&&decide ((body.length:Int)<=80)&&decide (((body++ZCw (ZEd (ZBE body))++rest).length:Int)<(body.length:Int)+4))=false;have:=ZCs (ZEd (ZBE body));rw [decide_eq_false (p:=(((body++ZCw (ZEd (ZBE body))++rest).length:Int)<(body.length:Int)+4)) (by simp only [List.length_append]; omega),Bool.and_false]
theorem ZCy:∀ (n:Nat) (l:List Int),l.length≤n→Zz l→(((Zx l).1.map fun b=>b.length+6).sum+(Zx l).2.1.length+(Zx l).2.2=l.length)∧(∀ b∈(Zx l).1,Zz b)∧Zz (Zx l).2.1
 | n,l,hn,hb=>by
   by_cases h0:l=[]
   .subst h0; rw [ZS3]; exact ⟨rfl,by simp,hb⟩
   ·cases hm:ZLj l with
    | true=>rw [ZK3 hm]; exact ⟨by simp,by simp,hb⟩
    | false=>
      have hpos:0<l.length:=List.length_pos_iff.2 h0;obtain ⟨n,rfl⟩:∃ k,n=k+1:=⟨n-1,by omega⟩
      cases hf:ZCV l with
      | none=>
        rw [ZIm h0 hm hf];obtain ⟨h1,h2,h3⟩:=ZCy n (l.drop 1) (by simp; omega) (hb.drop 1);refine ⟨?_,h2,h3⟩;rw [List.length_drop] at h1;dsimp only;omega
      | some r=>
        obtain ⟨b,k⟩:=r;obtain ⟨h80,hk1,hk2,hk3⟩:=ZOz hb hf;rw [ZF1 hm hf];obtain ⟨h1,h2,h3⟩:=ZCy n (l.drop k) (by simp; omega) (hb.drop k);refine ⟨?_,?_,h3⟩
        .rw [List.length_drop] at h1;simp only [List.map_cons,List.sum_cons];omega
        .intro x hx;rcases List.mem_cons.1 hx with rfl|hx
         .intro y hy;have:y∈ZBA x:=by simp [ZBA,ZBE,hy]
          rw [<-hk2] at this;exact hb y (List.mem_of_mem_take this)
         .exact h2 x hx
theorem ZGW:∀ (bs:List (List Int)),(∀ b∈bs,b.length≤80)→Zx (bs.map ZBA).flatten=(bs,[],0)
 | [],_=>rfl
 | b::bs,h=>by
   have hl:=h b (by simp);rw [List.map_cons,List.flatten_cons,ZF1 (ZKY hl _) (ZPK hl _)];rw [show (ZBA b++(bs.map ZBA).flatten).drop (b.length+6)=(bs.map ZBA).flatten by
    rw [<-ZEa b,List.drop_append_of_le_length (Nat.le_refl _),List.drop_length,List.nil_append]]
   rw [ZGW bs λx hx=>h x (by simp [hx])]
theorem ZTA {p0:Sl} {g h:Hp} {bs:List Int} (hg:g.sub h) (r:Row (cI .u8) g p0 bs) (hb:Zz bs) (hn:bs.length≤1000000) {Q:Bool→Hp→Prop} (hq:Q (ZLj bs) h):ZA TP 189 [Value.slice p0.a p0.len p0.cap] cB h Q:=by
 refine c189 ?_;unfold F189;have hl:=r.1;match bs,r,hb,hl,hq,hn with
 | [],r,hb,hl,hq,_=>
   refine ZN (λt h1=>h1=h/\t=true) ?_ λJ hJ=>Zh (by rw [hl]; rfl) (hJ _ _ ⟨rfl,rfl⟩);rintro t h1 ⟨rfl,rfl⟩;exact Zh rfl hq
 | [x],r,hb,hl,hq,_=>
   refine ZN (λt h1=>h1=h/\t=(x != 197)) ?_ λJ hJ=>ZT (by rw [hl]; rfl) ?_
   .rintro t h1 ⟨rfl,rfl⟩;refine ZD (λe=>?_) λe=>Zh (by rw [hl]; rfl) ?_
    .have:ZLj [x]=false:=by show (x==197)=false; simpa using e
     rw [this] at hq;exact hq
    .have:ZLj [x]=true:=by show (x==197)=true; simpa using e
     rw [this] at hq;exact hq
   .exact ZL r (by omega) (by simp) λa ha=>ZO r hg rfl ha (i:=0) (m:=0) rfl rfl (hJ _ _ ⟨rfl,rfl⟩)
 | x::y::t,r,hb,hl,hq,hn=>
   have hy:=hb y (by simp);have hl:p0.len=t.length+2:=hl;have hn:t.length+2<=1000000:=hn;have hm:ZLj (x::y::t)=(x==197&&decide (y<=80)&&decide ((t.length:Int)<y+4)):=rfl;rw [hm] at hq;refine ZN (λt h1=>h1=h/\t=(x != 197)) ?_ λJ hJ=>ZT (by rw [hl]; simp; omega) ?_
   .rintro t h1 ⟨rfl,rfl⟩;refine ZD (λe=>?_) λe=>ZT (by rw [hl]; simp; omega) ?_
    .rw [show (x==197)=false by simpa using e] at hq;exact hq
    .rw [show (x==197)=true by simpa using e,Bool.true_and] at hq;refine ZL r (by omega) (by simp; omega) λa ha=>ZO r hg rfl ha (i:=1) (m:=1) rfl rfl ?_;refine ZJ (λh80=>?_) λh80=>?_
     .rw [decide_eq_true h80,Bool.true_and] at hq;refine ZL r (by omega) (by simp; omega) λa ha=>ZO r hg rfl ha (i:=1) (m:=1) rfl rfl ?_;rw [w64 (n:=y) (by omega) (by omega),w64 (n:=6+y) (by omega) (by omega),hl];have e:decide (((t.length+2:Nat):Int)<6+y)=decide ((t.length:Int)<y+4):=decide_eq_decide.2 (by omega);rw [e];exact hq
     .rw [decide_eq_false h80,Bool.false_and] at hq;exact hq
   .exact ZL r (by omega) (by simp; omega) λa ha=>ZO r hg rfl ha (i:=0) (m:=0) rfl rfl (hJ _ _ ⟨rfl,rfl⟩)
def ZGb (p:Option Addr) (held:List Int) (lost:Nat) (c:Hp) (e:TypeId):Prop:=
 ∃ b s d,p=some ⟨b,0,none⟩/\On c [ob b [.slice s.a s.len s.cap,.int .i64 lost] e,d]/\Own (cI .u8) d s held
theorem ZW9 {h:Hp} {l:List Hp} {k:Nat} {e:TypeId} (o:On h (ob k [Value.slice none 0 0,Value.int .i64 0] e::l)):∃ c,On h (c::l)/\ZGb (some ⟨k,0,none⟩) [] 0 c e:=by have o2:On h ([ob k [Value.slice none 0 0,Value.int .i64 0] e,Hp.emp]++l):=o.emp.swap;obtain ⟨o3,o4⟩:=o2.joined;exact ⟨_,o3,k,⟨none,0,0⟩,Hp.emp,rfl,o4,Own.nil _⟩
theorem ZSS {h:Hp} {l:List Hp} (o:On h l) {Q:Option Addr->Hp->Prop} (hq:∀ p c h',On h' (c::l)->ZGb p [] 0 c 278->Q p h'):ZA TP 105 [] cP h Q:=by refine c105 ?_;unfold F105;refine ZH o λk1 h1 o1=>?_;obtain ⟨c,o2,w⟩:=ZW9 o1;exact hq _ c h1 o2 w
theorem ZQ7 {A dO r dB h:Hp} {l:List Hp} {z s:Sl} {sls:List Sl} {outs:List (List Int)} {body:List Int} (o:On h (dB::A::dO::r::l)) (wo:Own cSl dO z sls) (rr:ZD3 r sls outs) (wb:Own (cI .u8) dB s body) (hn:sls.length<=1000000)
 {K:Option Addr->Nat->Nat->Hp->Prop} (hk:∀ p n m d' r' h',On h' (A::d'::r'::l)->Own cSl d' ⟨p,n,m⟩ (sls++[s])->ZD3 r' (sls++[s]) (outs++[body])->K p n m h'):
 ZM (Obj.cells {toList:=[Value.slice s.a s.len s.cap]} 85) h λk3 h6=>ZX cSl 85 24 z.a z.len z.cap (some {block:=k3,off:=0}) 1 h6 K:=by
 refine ZH o λk3 h6 o6=>?_;have r3:Row cSl (ob k3 [Value.slice s.a s.len s.cap] 85) ⟨some ⟨k3,0,none⟩,1,1⟩ [s]:=Ze rfl rfl;have o7:On h6 (dO::ob k3 [Value.slice s.a s.len s.cap] 85::dB::A::r::l):=o6.pick [3,0,1,2,4] 5 (by decide) (by decide);refine ZU (g:=ob k3 [Value.slice s.a s.len s.cap] 85) (s:=z) (t:=⟨some ⟨k3,0,none⟩,1,1⟩) o7 rfl wo (by decide) r3 (o7.mem (by simp)) (by unfold ZAR; simp; omega) λd8 p8 n8 m8 h8 o8 w8=>?_;have o9:On h8 ([r,dB]++A::d8::l):=o8.pick [4,2,3,0] 5 (by decide) (by decide);obtain ⟨oa,ob⟩:=o9.joined;refine hk p8 n8 m8 d8 _ h8 (oa.pick [1,2,0] 3 (by decide) (by decide)) w8 (ZC1.app (ZD3.sub (ob.mem (by simp)) rr) ⟨wb.row.sub (ob.mem (by simp)),trivial⟩)
theorem ZSB {p:Nat→Prop}:∀ n,p n→∃ k,p k∧∀ m,p m→k≤m:=by
 intro n;induction n using Nat.strongRecOn with
 | _ n ih=>
   intro hn;by_cases h:∃ m,m<n/\p m
   .obtain ⟨m,hm,hp⟩:=h;exact ih m hm hp
   .exact ⟨n,hn,λm hm=>by
     rcases Nat.lt_or_ge m n with h'|h'
     .exact absurd ⟨m,h',hm⟩ h
     .exact h'⟩
open Classical in
theorem ZV8 {T:Type} {x0:T} {h0:Hp} {B:(T->Hp->Prop)->T->Hp->Prop} (I:Nat->T->Hp->Prop) (n:Nat) (hi:I n x0 h0)
 (step:∀ (J:T->Hp->Prop) (n:Nat) (x:T) (h:Hp),(∀ m x' h',I m x' h'->m<n->J x' h')->I n x h->B J x h):Zj x0 h0 B:=by
 refine ⟨λx h=>∃ n,I n x h,λx h=>if h':∃ n,I n x h then Classical.choose (ZSB (p:=λn=>I n x h) _ h'.choose_spec) else 0,⟨n,hi⟩,λx h hI=>?_⟩;have key:∀ x h (h':∃ n,I n x h),(if h':∃ n,I n x h then Classical.choose (ZSB (p:=λn=>I n x h) _ h'.choose_spec) else 0)=Classical.choose (ZSB (p:=λn=>I n x h) _ h'.choose_spec):=λx h h'=>dif_pos h';have hs:=Classical.choose_spec (ZSB (p:=λn=>I n x h) _ hI.choose_spec);refine step _ _ x h (λm x' h' hm hlt=>⟨⟨m,hm⟩,?_⟩) hs.1;have hE:∃ n,I n x' h':=⟨m,hm⟩
 have hs':=Classical.choose_spec (ZSB (p:=λn=>I n x' h') _ hE.choose_spec);dsimp only;rw [key x h hI,key x' h' hE];exact Nat.lt_of_le_of_lt (hs'.2 m hm) hlt
def Mid (all rest:List Int) (outs:List (List Int)) (n:Nat):Prop:=
 (Zx all).1=outs++(Zx rest).1/\(Zx all).2.1=(Zx rest).2.1/\(Zx all).2.2=n+(Zx rest).2.2/\Zz rest/\outs.length+n+rest.length<=all.length
theorem Mid.start {all:List Int} (hb:Zz all):Mid all all [] 0:=⟨rfl,rfl,by omega,hb,by simp⟩
theorem Mid.none {all rest:List Int} {outs:List (List Int)} {n:Nat} (m:Mid all rest outs n) (h0:rest≠[]) (h:ZLj rest=false) (hf:ZCV rest=none):Mid all (rest.drop 1) outs (n+1):=by obtain ⟨m1,m2,m3,m4,m5⟩:=m;rw [ZIm h0 h hf] at m1 m2 m3;have:=List.length_pos_iff.2 h0;exact ⟨m1,m2,by dsimp only at m3; omega,m4.drop 1,by rw [List.length_drop]; omega⟩
theorem Mid.some {all rest:List Int} {outs:List (List Int)} {n:Nat} {b:List Int} {k:Nat} (m:Mid all rest outs n) (h:ZLj rest=false) (hf:ZCV rest=some (b,k)):Mid all (rest.drop k) (outs++[b]) n:=by obtain ⟨m1,m2,m3,m4,m5⟩:=m;rw [ZF1 h hf] at m1 m2 m3;have:=ZEW hf;exact ⟨by rw [m1]; simp,m2,m3,m4.drop k,by rw [List.length_drop,List.length_append,List.length_singleton]; omega⟩
theorem Mid.stop {all rest:List Int} {outs:List (List Int)} {n:Nat} (m:Mid all rest outs n) (h:rest=[]\/ZLj rest=true):Zx all=(outs,rest,n):=by
 obtain ⟨m1,m2,m3,m4,m5⟩:=m;have e:Zx rest=([],rest,0):=by
  rcases h with rfl|h
  .rfl
  .exact ZK3 h
 rw [e] at m1 m2 m3;obtain ⟨a,b,c⟩:(Zx all).1=outs/\(Zx all).2.1=rest/\(Zx all).2.2=n:=⟨by simpa using m1,m2,by simpa using m3⟩
 rw [<-a,<-b,<-c]
def ZV5:List Sl->List (List Int)->Prop:=ZC1 λs bs=>bs.length<=s.cap
theorem ZKa {p:Option Addr} {held:List Int} {lost:Nat} {c g h:Hp} {l:List Hp} {m:Sl} {bs:List Int} (o:On h (c::l)) (w:ZGb p held lost c 278) (hg:g∈l) (r:Row (cI .u8) g m bs) (hbh:Zz held) (hb:Zz bs) (hl:held.length+bs.length≤1000000) (hlost:lost≤1000000)
 {Q:Sl->Hp->Prop} (hq:∀ s ss c' r' h',On h' (c'::r'::l)->ZGb p (Zx (held++bs)).2.1 (lost+(Zx (held++bs)).2.2) c' 278->Row cSl r' s ss->ZD3 r' ss (Zx (held++bs)).1->ZV5 ss (Zx (held++bs)).1->Q s h'):
 ZA TP 115 [Value.pointer p,Value.slice m.a m.len m.cap] cSl h Q:=by
 obtain ⟨b,s,d,rfl,oc,wd⟩:=w;refine c115 ?_;unfold F115;dsimp only [ZR];have os:=o.split oc;refine ZT rfl ?_;refine ZI (x:=s) os 0 rfl rfl ?_;refine ZU (g:=g) (s:=s) (t:=m) os.swap rfl wd (by decide) r (os.mem (by simp [hg])) (by unfold ZAR; omega) λd1 p1 k1 k2 h1 o1 w1=>?_;have hball:Zz (held++bs):=by
  intro x hx;rcases List.mem_append.1 hx with hx|hx
  .exact hbh x hx
  .exact hb x hx
 have hal:(held++bs).length<=1000000:=by rw [List.length_append]; exact hl
 generalize held++bs=all at hq w1 hball hal;have oi:On h1 (ob b [.slice s.a s.len s.cap,.int .i64 (lost:Int)] 278::Hp.emp::Hp.emp::d1::l):=o1.swap.emp.emp.pick [2,0,1] 3 (by decide) (by decide);refine Zb (λz h'=>∃ (n:Nat) (outs:List (List Int)) (rest:List Int) (sls:List Sl) (dO r:Hp),Mid all rest outs n/\
  On h' (ob b [.slice s.a s.len s.cap,.int .i64 ((lost+n:Nat):Int)] 278::dO::r::d1::l)/\Own cSl dO z.1 sls/\ZD3 r sls outs/\Row (cI .u8) d1 z.2 rest/\rest.length<=z.2.cap/\ZV5 sls outs) (λz=>z.2.len)
  ⟨0,[],all,[],Hp.emp,Hp.emp,Mid.start hball,oi,Own.nil _,trivial,w1.row,w1.le_cap (by decide),trivial⟩ ?_
 rintro J z h2 again ⟨n,outs,rest,sls,dO,r2,mid,o2,wo,rr,rw2,hcap,hcs⟩
 have hlen:=rw2.1;have hbr:=mid.2.2.2.1;have hsz:=mid.2.2.2.2;have hsl:=rr.len;refine ZN (λt h'=>h'=h2/\(t=true->rest≠[]/\ZLj rest=false)/\(t=false->rest=[]\/ZLj rest=true)) ?_ λJ3 hJ3=>?_
 ·rintro t h3 ⟨rfl,ht,hf⟩;refine ZD (fun e=>?_) fun e=>?_
  .obtain ⟨hne,hnm⟩:=ht e;clear ht hf;have hpos:=List.length_pos_iff.2 hne;refine ZN (λzz h'=>J (zz.1,zz.2) h') (λ_ _ h=>h) λJ2 hJ2=>?_;refine ZWw (p0:=z.2) o2 (g:=d1) (by simp) rw2 hbr hcap (by omega) (λhn h4 o4=>?_) λbody k hk s4 d4 h4 o4 w4=>?_
   .refine ZT rfl ?_;refine ZI (x:=((lost+n:Nat):Int)) o4 0 rfl rfl ?_;have ew:IntKind.i64.wrap (((lost+n:Nat):Int)+1)=((lost+(n+1):Nat):Int):=ZAQ (by omega);rw [ew];refine ZZ (cd:=cI .i64) (i:=1) (x:=((lost+(n+1):Nat):Int)) (vs':=[.slice s.a s.len s.cap,.int .i64 ((lost+(n+1):Nat):Int)]) o4 rfl rfl (Nat.le_refl 2) λh5 o5=>?_;refine ⟨by omega,by omega,?_⟩;have hc:=rw2.cut (k:=1) (m:=rest.length) (cap':=z.2.cap-1) (by omega) (by omega) hcap rfl (z:=1) rfl;rw [List.take_of_length_le (by simp)] at hc;refine hJ2 _ _ (again _ _ ⟨n+1,outs,rest.drop 1,sls,dO,r2,mid.none hne hnm hn,o5,wo,rr,?_,?_,hcs⟩ ?_)
    .rw [hlen]; exact hc
    .rw [List.length_drop]; dsimp only; omega
    .dsimp only; omega
   .have hk2:=ZEW hk;refine Zh rfl (ZQ7 o4 wo rr w4 (by omega) λp n5 m5 d5 r5 h5 o5 w5 rr5=>?_);refine ⟨by dsimp only; omega,by dsimp only; omega,?_⟩;have hc:=rw2.cut (k:=k) (m:=rest.length) (cap':=z.2.cap-k) (by omega) (by omega) hcap rfl (z:=1) rfl;rw [List.take_of_length_le (by simp)] at hc;dsimp only;rw [Int.toNat_natCast];refine hJ2 _ _ (again _ _ ⟨n,outs++[body],rest.drop k,sls++[s4],d5,r5,mid.some hnm hk,o5,w5,rr5,?_,?_,ZC1.app hcs ⟨w4.le_cap (by decide),trivial⟩⟩ ?_)
    .rw [hlen]; exact hc
    .rw [List.length_drop]; dsimp only; omega
    .dsimp only; omega
  .have hstop:=mid.stop (hf e);rw [hstop] at hq;refine ZH o2 λk10 h4 o4=>?_;have w0:Own (cI .u8) (ob k10 [] 5) ⟨some ⟨k10,0,none⟩,0,0⟩ []:=ZBN (cd:=cI .u8) (xs:=[]) (rest:=[]) rfl rfl rfl;refine ZU (g:=d1) (s:=⟨some ⟨k10,0,none⟩,0,0⟩) (t:=z.2) o4 rfl w0 (by decide) rw2 (o4.mem (by simp)) (by unfold ZAR; simp; omega) λd5 p5 n5 m5 h5 o5 w5=>?_;have o5':On h5 (ob b [.slice s.a s.len s.cap,.int .i64 ((lost+n:Nat):Int)] 278::d5::dO::r2::l):=o5.pick [1,0,2,3] 5 (by decide) (by decide);refine ZZ (cd:=cSl) (i:=0) (x:=(⟨p5,n5,m5⟩:Sl)) (vs':=[.slice p5 n5 m5,.int .i64 ((lost+n:Nat):Int)]) o5' rfl rfl (Nat.le_succ 1) λh6 o6=>?_;obtain ⟨o7,o8⟩:=On.joined (cs:=[_,d5]) (l:=dO::r2::l) o6;obtain ⟨o9,oa⟩:=On.joined (cs:=[dO,r2]) (o7.pick [1,2,0] 3 (by decide) (by decide));exact hq z.1 sls _ _ h6 o9.swap ⟨b,⟨p5,n5,m5⟩,d5,rfl,o8,w5⟩ (wo.row.sub (oa.mem (by simp))) (ZD3.sub (oa.mem (by simp)) rr) hcs
 .refine ZJ (λhpos=>?_) λh0=>hJ3 _ _ ⟨rfl,λh=>(by cases h),λ_=>.inl (List.length_eq_zero_iff.1 (by omega))⟩;refine ZTA (o2.mem (by simp)) rw2 hbr (by omega) (hJ3 _ _ ⟨rfl,λh=>⟨?_,by simpa using h⟩,λh=>.inr (by simpa using h)⟩);rintro rfl;rw [List.length_nil] at hlen;omega
theorem ZGF {l:List Int} (hb:Zz l):(∀ b∈(Zx l).1,Zz b)/\Zz (Zx l).2.1:=(ZCy l.length l (Nat.le_refl _) hb).2
theorem ZYp {l:List (List Int)}:l.length<=(l.map λb=>b.length+6).sum:=by
 induction l with
 | nil=>exact Nat.le_refl _
 | cons a l ih=>simp only [List.map_cons,List.sum_cons,List.length_cons]; omega
theorem ZJD {l:List Int} (hb:Zz l):(Zx l).1.length+(Zx l).2.1.length+(Zx l).2.2<=l.length:=by have h1:=(ZCy l.length l (Nat.le_refl _) hb).1;have h2:=ZYp (l:=(Zx l).1);omega
def ZPV:List Int:=[-1,1,0,0,1,0,5,1,3,5,3,1,1,1,1,1,1,2,2,2,4,2,5,4,3,2,2,1,6]
def Z0 (k:Int):Int:=if k<0 then -1 else ZPV.getD k.toNat (-1)
theorem kinds {k:Int} {P:Int->Prop} (h:∀ n:Nat,n<29->P n) (h1:0<=k) (h2:k<29):P k:=by
 obtain ⟨n,rfl⟩:∃ n:Nat,k=n:=⟨k.toNat,by omega⟩
 exact h n (by omega)
theorem ZGx {k:Int} (h:k<0\/29<=k):Z0 k=-1:=by
 unfold Z0;by_cases h0:k<0
 .rw [if_pos h0]
 .rw [if_neg h0,List.getD_eq_getElem?_getD,List.getElem?_eq_none (by simp [ZPV]; omega)]; rfl
theorem ZBb (k:Int):-1<=Z0 k/\Z0 k<=6:=by
 by_cases h:k<0\/29<=k
 .rw [ZGx h]; omega
 .have key:∀ n:Nat,n<29->-1<=Z0 n/\Z0 n<=6:=by decide +kernel
  exact kinds (P:=λk=>-1<=Z0 k/\Z0 k<=6) key (by omega) (by omega)
theorem ZZc {k:Int} {h:Hp} {Q:Int->Hp->Prop} (hq:Q (Z0 k) h):F193 k h Q:=by
 by_cases hk:k<0\/29<=k
 .have hne:∀ c:Int,0<=c->c<29->(k==c)=false:=by intro c h1 h2;simp only [beq_eq_false_iff_ne,ne_eq];omega
  rw [ZGx hk] at hq;unfold F193 ZY;simp only [hne 1 (by decide) (by decide),hne 2 (by decide) (by decide),hne 3 (by decide) (by decide),hne 4 (by decide) (by decide),hne 5 (by decide) (by decide),hne 6 (by decide) (by decide),hne 7 (by decide) (by decide),hne 8 (by decide) (by decide),hne 9 (by decide) (by decide),hne 10 (by decide) (by decide),hne 11 (by decide) (by decide),hne 12 (by decide) (by decide),hne 13 (by decide) (by decide),hne 14 (by decide) (by decide),hne 15 (by decide) (by decide),hne 16 (by decide) (by decide),hne 17 (by decide) (by decide),hne 18 (by decide) (by decide),hne 19 (by decide) (by decide),hne 20 (by decide) (by decide),hne 21 (by decide) (by decide),hne 22 (by decide) (by decide),hne 23 (by decide) (by decide),hne 24 (by decide) (by decide),hne 25 (by decide) (by decide),hne 26 (by decide) (by decide),hne 27 (by decide) (by decide),hne 28 (by decide) (by decide)];exact hq
 .have:k=0\/k=1\/k=2\/k=3\/k=4\/k=5\/k=6\/k=7\/k=8\/k=9\/k=10\/k=11\/k=12\/k=13\/k=14\/k=15\/k=16\/k=17\/k=18\/k=19\/k=20\/k=21\/k=22\/k=23\/k=24\/k=25\/k=26\/k=27\/k=28:=by omega
  rcases this with rfl|rfl|rfl|rfl|rfl|rfl|rfl|rfl|rfl|rfl|rfl|rfl|rfl|rfl|rfl|rfl|rfl|rfl|rfl|rfl|rfl|rfl|rfl|rfl|rfl|rfl|rfl|rfl|rfl<;>exact hq
theorem ZLr {k:Int} {K:Int->Prop} (hk:K (Z0 k)):ZRZ TP 193 [Value.int .i64 k] (cI .i64) K:=by refine ⟨Z0 k,?_,hk⟩;have:=c193 (p0:=k) (h:=Hp.emp) (Q:=λx h'=>x=Z0 k/\h'=Hp.emp) (ZZc ⟨rfl,rfl⟩);exact ZHt.mono this λv h' ⟨x,e,ex,eh⟩=>⟨by rw [e,ex],eh⟩
theorem ZOS {k:Int} {h:Hp} {l:List Hp} (o:On h l) {Q:Int→Hp→Prop} (hq:∀ h',On h' l→Q (Z0 k) h'):ZA TP 67 [Value.int .i64 k] (cI .i64) h Q:=by
 refine c67 ?_;unfold F67;refine ZH o λk1 h1 o1=>?_;have r1:Row (cI .i64) (ob k1 _ 3) ⟨some ⟨k1,0,none⟩,29,29⟩ ZPV:=Ze rfl rfl;refine ZN (λt h'=>h'=h1/\t=decide (k<0\/29<=k)) ?_ λJ hJ=>?_
 .rintro t h2 ⟨rfl,rfl⟩;refine ZJ (λhk=>?_) λhk=>?_
  .have:=hq _ o1.tail;rw [ZGx hk] at this;exact this
  .obtain ⟨n,rfl⟩:∃ n:Nat,k=n:=⟨k.toNat,by omega⟩
   have hn:n<29:=by omega
   have hl:n<ZPV.length:=hn;refine ZL r1 (Int.natCast_nonneg n) (by simp [ZPV]; omega) λa ha=>ZO r1 (o1.get (i:=0) rfl) rfl ha (i:=n) (List.getElem?_eq_getElem hl) (by simp) ?_;have:=hq _ o1.tail;have e:Z0 n=ZPV[n]:=by unfold Z0;rw [if_neg (by omega),Int.toNat_natCast,List.getD_eq_getElem?_getD,List.getElem?_eq_getElem hl]; rfl
   rw [e] at this;exact this
 .refine ZJ (λh0=>hJ _ _ ⟨rfl,by simp; omega⟩) λh0=>hJ _ _ ⟨rfl,decide_eq_decide.2 (by omega)⟩
def fs (m:Msg):List Int:=[m.F_0,m.F_1,m.F_2,m.F_3,m.F_4,m.F_5]
def mkM (k:Int) (l:List Int):Msg:=⟨k,l.getD 0 0,l.getD 1 0,l.getD 2 0,l.getD 3 0,l.getD 4 0,l.getD 5 0⟩
theorem ZEI (m:Msg):(fs m).length=6:=rfl
def isV (m:Msg):Bool:=decide (0<=Z0 m.Kind)&&((fs m).drop (Z0 m.Kind).toNat).all (·==0)
theorem ZZO {m m':Msg} (hk:m.Kind=m'.Kind) (h:fs m=fs m'):m=m':=by cases m; cases m';simp only [fs,List.cons.injEq,and_true] at h;obtain ⟨rfl,rfl,rfl,rfl,rfl,rfl⟩:=h;cases hk;rfl
theorem ZXV (k:Int) (l:List Int):fs (mkM k l)=l.take 6++List.replicate (6-l.length) 0:=by
 match l with
 | []=>rfl
 | [_]=>rfl
 | [_,_]=>rfl
 | [_,_,_]=>rfl
 | [_,_,_,_]=>rfl
 | [_,_,_,_,_]=>rfl
 | _::_::_::_::_::_::t=>
   rw [show 6-(_::_::_::_::_::_::t:List Int).length=0 by simp]; rfl
theorem ZMR {m:Msg} (h:isV m=true):0<=Z0 m.Kind/\mkM m.Kind ((fs m).take (Z0 m.Kind).toNat)=m:=by
 unfold isV at h;rw [Bool.and_eq_true,decide_eq_true_eq] at h;obtain ⟨h0,h1⟩:=h;have h6:=(ZBb m.Kind).2;refine ⟨h0,ZZO rfl ?_⟩;generalize (Z0 m.Kind).toNat=n at h1;rw [ZXV];have hl:=ZEI m;rw [List.take_of_length_le (by rw [List.length_take]; omega)];conv=>rhs; rw [<-List.take_append_drop n (fs m)]
 congr 1;rw [List.length_take,hl];refine (List.eq_replicate_iff.2 ⟨by rw [List.length_drop,hl]; omega,λb hb=>?_⟩).symm;have:=List.all_eq_true.1 h1 b hb;simpa using this
theorem ZQd {cs:List Value} {off:Nat} {n:Int} {K:Int->Prop} (h:cs[off]?=some (Value.int .i64 n)) (hk:K n):ZNb (cI .i64) cs off K:=by
 refine ⟨n,λi v hv=>?_,hk⟩;have hv:[Value.int .i64 n][i]?=some v:=hv;match i,hv with
 | 0,hv=>cases hv; exact h
theorem ZWC (m:Msg) {i:Nat} (hi:i<6):∃ x,(fs m)[i]?=some x/\(ZAn.enc m).cells.toList[1+i*1]?=some (Value.int .i64 x):=by
 match i,hi with
 | 0,_=>exact ⟨_,rfl,rfl⟩
 | 1,_=>exact ⟨_,rfl,rfl⟩
 | 2,_=>exact ⟨_,rfl,rfl⟩
 | 3,_=>exact ⟨_,rfl,rfl⟩
 | 4,_=>exact ⟨_,rfl,rfl⟩
 | 5,_=>exact ⟨_,rfl,rfl⟩
theorem ZXU (k:Int) (l:List Int) {i:Nat} (hi:i<6) (hl:l.length=i) (n:Int):(ZAn.enc (mkM k (l++[n]))).cells.toList=ZFD (ZAn.enc (mkM k l)).cells.toList (1+i*1) [Value.int .i64 n]:=by
 match i,hi,l,hl with
 | 0,_,[],_=>rfl
 | 1,_,[_],_=>rfl
 | 2,_,[_,_],_=>rfl
 | 3,_,[_,_,_],_=>rfl
 | 4,_,[_,_,_,_],_=>rfl
 | 5,_,[_,_,_,_,_],_=>rfl
theorem ZLA {k:Int} {p:Sl} {g h:Hp} {ns:List Int} (hg:g.sub h) (r:Row (cI .i64) g p ns) {Q:Msg→Hp→Prop} (hq:Q (mkM k (ns.take 6)) h):ZA TP 69 [Value.int .i64 k,Value.slice p.a p.len p.cap] ZAn h Q:=by
 refine c69 ?_;unfold F69;have hl:=r.1;refine Zb (λz h'=>∃ i:Nat,z=(mkM k (ns.take i),(i:Int))/\i<=6/\i<=ns.length/\h'=h) (λz=>6-z.2.toNat) ⟨0,rfl,Nat.zero_le _,Nat.zero_le _,rfl⟩ ?_;rintro J z h' again ⟨i,rfl,h6,hin,rfl⟩
 refine ZN (λt h1=>h1=h'/\t=decide (i<ns.length/\i<6)) ?_ λJ2 hJ2=>?_
 ·rintro t h1 ⟨rfl,rfl⟩;refine ZJ (fun hi=>?_) fun hi=>?_
  .have a0:ns[i]?=some ns[i]:=List.getElem?_eq_getElem hi.1;refine ZL r (Int.natCast_nonneg i) (by dsimp only; omega) λa ha=>ZO r hg rfl ha (i:=i) a0 (by simp) ?_;refine ⟨Int.natCast_nonneg i,by dsimp only; omega,?_⟩;dsimp only;rw [Int.toNat_natCast];refine ⟨by simp; omega,_,ZXU k (ns.take i) hi.2 (by rw [List.length_take]; omega) ns[i],?_⟩;refine again _ _ ⟨i+1,?_,by omega,by omega,rfl⟩ (by dsimp only; rw [ZAQ (by omega)]; omega);rw [ZAQ (by omega),List.take_add_one,a0]; rfl
  .have e:ns.take i=ns.take 6:=by
    rcases Nat.lt_or_ge i 6 with h|h
    .rw [List.take_of_length_le (by omega),List.take_of_length_le (by omega)]
    .rw [show i=6 by omega]
   dsimp only;rw [e];exact hq
 .dsimp only;refine ZJ (λh0=>hJ2 _ _ ⟨rfl,decide_eq_decide.2 (by omega)⟩) λh0=>hJ2 _ _ ⟨rfl,by simp; omega⟩
theorem ZQu {m:Msg} (h:Z0 m.Kind<0):isV m=false:=by unfold isV; rw [decide_eq_false (by omega)]; rfl
theorem ZSN {m:Msg} {i:Nat} {x:Int} (hi:(Z0 m.Kind).toNat<=i) (hx:(fs m)[i]?=some x) (h0:x≠0):isV m=false:=by unfold isV;rw [Bool.and_eq_false_iff];right;rw [List.all_eq_false];refine ⟨x,?_,by simpa using h0⟩;refine List.mem_of_getElem? (i:=i-(Z0 m.Kind).toNat) ?_;rw [List.getElem?_drop,show (Z0 m.Kind).toNat+(i-(Z0 m.Kind).toNat)=i by omega];exact hx
theorem ZNF {m:Msg} (h0:0<=Z0 m.Kind) (h:∀ (i:Nat) (x:Int),(Z0 m.Kind).toNat<=i->i<6->(fs m)[i]?=some x->x=0):isV m=true:=by unfold isV;rw [decide_eq_true h0,Bool.true_and,List.all_eq_true];intro x hx;obtain ⟨j,hj⟩:=List.getElem?_of_mem hx;rw [List.getElem?_drop] at hj;have hlt:=(List.getElem?_eq_some_iff.1 hj).1;have:=h _ x (Nat.le_add_right _ _) hlt hj;simpa using this
theorem ZXQ {m:Msg} {h:Hp} {l:List Hp} (o:On h l) {Q:Bool→Hp→Prop} (hq:∀ h',On h' l→Q (isV m) h'):ZA TP 129 [ZAn.enc m] cB h Q:=by
 refine c129 ?_;unfold F129;refine ZH o λk1 h1 o1=>?_;have hq:=hq h1 o1.tail;refine ZI (x:=m.Kind) o1 0 rfl rfl ?_;refine ZLr ?_;have hr:=ZBb m.Kind;refine ZJ (λhn=>by rw [ZQu hn] at hq; exact hq) λhn=>?_;generalize hn1:Z0 m.Kind=n at hn hr;obtain ⟨n,rfl⟩:∃ k:Nat,n=k:=⟨n.toNat,by omega⟩
 refine ⟨by omega,by omega,?_⟩;rw [Int.toNat_natCast];have r0:Row (cI .i64) (ob k1 [Value.int .i64 m.Kind,Value.int .i64 m.F_0,Value.int .i64 m.F_1,Value.int .i64 m.F_2,Value.int .i64 m.F_3,Value.int .i64 m.F_4,Value.int .i64 m.F_5] 59) ⟨some ⟨k1,1,none⟩,6,6⟩ (fs m):=⟨rfl,ZCS rfl⟩
 have rc:=r0.cut (k:=n) (m:=6) (cap':=6-n) (by omega) (by rw [ZEI]; omega) (by rw [ZEI]; exact Nat.le_refl 6) rfl (z:=1) rfl;rw [List.take_of_length_le (by rw [List.length_drop,ZEI]; omega)] at rc;refine Zb (λz h'=>∃ i:Nat,z=i/\i<=6-n/\(∀ (j:Nat) (x:Int),n<=j->j<n+i->(fs m)[j]?=some x->x=0)/\h'=h1) (λz=>6-n-z.toNat) ⟨0,rfl,Nat.zero_le _,λj x h1 h2=>by omega,rfl⟩ ?_;rintro J z h' again ⟨i,rfl,hle,hz,rfl⟩
 refine ZJ (λhlt=>?_) λhge=>?_
 .have hi:n+i<6:=by omega
  have hx:(fs m)[n+i]?=some (fs m)[n+i]:=List.getElem?_eq_getElem (by rw [ZEI]; exact hi);have hx2:((fs m).drop n)[i]?=some (fs m)[n+i]:=by rw [List.getElem?_drop]; exact hx
  refine ZL rc (Int.natCast_nonneg i) (by rw [List.length_drop,ZEI]; omega) λa ha=>ZO rc (o1.get (i:=0) rfl) rfl ha (i:=i) hx2 (by simp) ?_;refine ZD (λhne=>?_) λheq=>?_
  .rw [ZSN (i:=n+i) (by rw [hn1]; omega) hx (by simpa using hne)] at hq;exact hq
  .refine again _ _ ⟨i+1,ZAQ (by omega),by omega,λj x h1 h2 h3=>?_,rfl⟩ (by rw [ZAQ (by omega)]; omega);by_cases hj:j<n+i
   .exact hz j x h1 hj h3
   .rw [show j=n+i by omega,hx] at h3;cases h3;simpa using heq
 .have:isV m=true:=ZNF (by rw [hn1]; omega) λi x h1 h2 h3=>hz i x (by rw [hn1] at h1; omega) (by omega) h3;rw [this] at hq;exact hq
theorem ZZP {m:Msg} {h:Hp} {l:List Hp} (o:On h l) {Q:Bool→Hp→Prop} (hq:∀ h',On h' l→Q (isV m) h'):ZA TP 28 [ZAn.enc m] cB h Q:=by
 refine c28 ?_;unfold F28;refine ZOS o λh1 o1=>?_;have hq:=hq h1 o1;have hr:=ZBb m.Kind;have em:ZVA (Z0 m.Kind) 0=((Z0 m.Kind).toNat:Int):=by unfold ZVA; split<;>omega
 rw [em];refine Zb (λz h'=>∃ i:Nat,z=i/\(Z0 m.Kind).toNat<=i/\i<=6/\(∀ (j:Nat) (x:Int),(Z0 m.Kind).toNat<=j->j<i->(fs m)[j]?=some x->x=0)/\h'=h1) (λz=>6-z.toNat) ⟨(Z0 m.Kind).toNat,rfl,Nat.le_refl _,by omega,λj x h1 h2=>by omega,rfl⟩ ?_;rintro J z h' again ⟨i,rfl,hni,hle,hz,rfl⟩
 refine ZJ (λhlt=>?_) λhge=>?_
 .have hi:i<6:=by omega
  obtain ⟨x,hx,hc⟩:=ZWC m hi;refine ⟨Int.natCast_nonneg i,hlt,ZQd (n:=x) (by rw [Int.toNat_natCast]; exact hc) ?_⟩;refine ZD (λhne=>?_) λheq=>?_
  .rw [ZSN hni hx (by simpa using hne)] at hq;exact hq
  .refine again _ _ ⟨i+1,ZAQ (by omega),by omega,by omega,λj y h1 h2 h3=>?_,rfl⟩ (by rw [ZAQ (by omega)]; omega);by_cases hj:j<i
   .exact hz j y h1 hj h3
   .rw [show j=i by omega,hx] at h3;cases h3;simpa using heq
 .by_cases h0:0<=Z0 m.Kind
  .rw [ZNF h0 λi x h1 h2 h3=>hz i x h1 (by omega) h3] at hq;rw [show decide (Z0 m.Kind>=0)=true from decide_eq_true h0];exact hq
  .rw [ZQu (by omega)] at hq;rw [show decide (Z0 m.Kind>=0)=false from decide_eq_false (by omega)];exact hq
def ZDZ (x:ZP):Msg:=⟨x.Msg_Kind,x.Msg_F_0,x.Msg_F_1,x.Msg_F_2,x.Msg_F_3,x.Msg_F_4,x.Msg_F_5⟩
def okF (x:ZP):Bool:=isV (ZDZ x)&&decide (0<=x.Seq)
def ZIH (x:ZP):List Int:=x.Seq::x.Msg_Kind::(fs (ZDZ x)).take (Z0 x.Msg_Kind).toNat
def ZAf (x:ZP):List Int:=bif okF x then ZEi (ZIH x) else []
def wfF (x:ZP):Prop:=∀ n∈x.Seq::x.Msg_Kind::fs (ZDZ x),I64 n
theorem ZGn {x:ZP} (h:wfF x):∀ n∈ZIH x,I64 n:=by
 intro n hn;refine h n ?_;unfold ZIH at hn;rcases List.mem_cons.1 hn with rfl|hn
 .simp
 .rcases List.mem_cons.1 hn with rfl|hn
  .simp
  .exact List.mem_cons_of_mem _ (List.mem_cons_of_mem _ (List.mem_of_mem_take hn))
theorem ZG4 (x:ZP):(ZIH x).length<=8:=by unfold ZIH;simp only [List.length_cons,List.length_take];have:=ZEI (ZDZ x);omega
theorem ZCe {x:ZP} (h:wfF x):(ZAf x).length≤80:=by
 unfold ZAf;cases okF x with
 | false=>simp
 | true=>
   have:=ZFI (ZIH x) (ZGn h);have:=ZG4 x;simp only [cond_true]; omega
theorem ZDl (x:ZP):Zz (ZAf x):=by
 unfold ZAf;cases okF x with
 | false=>intro b hb; cases hb
 | true=>exact ZS5 _
theorem ZNd (n:Int):0<(ZKn n).length:=List.length_pos_iff.2 (ZV0 _)
theorem ZHI {x:ZP}:(ZAf x).length=0↔okF x=false:=by
 unfold ZAf;cases okF x with
 | false=>simp
 | true=>
   have:=ZNd x.Seq;simp only [cond_true,ZIH,ZBU,List.length_append];refine ⟨λh=>by omega,λh=>by cases h⟩
theorem ZQ4 {x:ZP} {h:Hp} {l:List Hp} (o:On h l) (hw:wfF x) {Q:Sl→Hp→Prop} (hq:∀ s d h',On h' (d::l)→Own (cI .u8) d s (ZAf x)→Q s h'):ZA TP 263 [ZQ.enc x] cSl h Q:=by
 refine c263 ?_;unfold F263;refine ZH o λk1 h1 o1=>?_;refine ZN (λt h'=>On h' (ob k1 (ZQ.enc x).cells.toList 161::l)/\t=!okF x) ?_ λJ hJ=>?_
 .rintro t h2 ⟨o2,rfl⟩;refine ZD (λe=>?_) λe=>?_
  .have ek:okF x=false:=by simpa using e
   have:=hq ⟨none,0,0⟩ Hp.emp h2 o2.tail.emp;unfold ZAf at this;rw [ek] at this;exact this (Own.nil _)
  .have ek:okF x=true:=by simpa using e
   have hn:=(ZMR (m:=ZDZ x) (by unfold okF at ek; rw [Bool.and_eq_true] at ek; exact ek.1)).1;have hr:=ZBb x.Msg_Kind;have hn:0<=Z0 x.Msg_Kind:=hn;refine ZI (x:=x.Seq) o2 0 rfl rfl ?_;refine ZI (x:=x.Msg_Kind) o2 0 rfl rfl ?_;refine ZI (x:=x.Msg_Kind) o2 0 rfl rfl ?_;refine ZLr ⟨hn,by omega,?_⟩;refine ZH o2 λk4 h3 o3=>?_;have w0:Own (cI .i64) (ob k4 [Value.int .i64 x.Seq,Value.int .i64 x.Msg_Kind] 2) ⟨some ⟨k4,0,none⟩,2,2⟩ [x.Seq,x.Msg_Kind]:=ZBN (cd:=cI .i64) (xs:=[x.Seq,x.Msg_Kind]) (rest:=[]) rfl rfl rfl;have r0:Row (cI .i64) (ob k1 (ZQ.enc x).cells.toList 161) ⟨some ⟨k1,2,none⟩,6,6⟩ (fs (ZDZ x)):=⟨rfl,ZCS rfl⟩
   have rc:=r0.cut (k:=0) (m:=(Z0 x.Msg_Kind).toNat) (cap':=6) (by omega) (by rw [ZEI]; omega) (by rw [ZEI]; exact Nat.le_refl _) rfl (z:=1) rfl;rw [List.drop_zero,Nat.sub_zero] at rc;refine ZU (g:=ob k1 (ZQ.enc x).cells.toList 161) (s:=⟨some ⟨k4,0,none⟩,2,2⟩) (t:=⟨Zm (some ⟨k1,2,none⟩) 0 6 1,(Z0 x.Msg_Kind).toNat-0,6⟩) o3 rfl w0 (by decide) rc (o3.mem (by simp)) (by unfold ZAR; rw [List.length_take,ZEI]; simp; omega) λd5 p5 n5 m5 h5 o5 w5=>?_;have w5:Own (cI .i64) d5 ⟨p5,n5,m5⟩ (ZIH x):=w5;have hnl:=ZG4 x;refine ZTJ (p0:=⟨p5,n5,m5⟩) o5 (List.mem_cons_self ..) w5.row (ZGn hw) (by omega) λs6 d6 h6 o6 w6=>?_;refine hq s6 d6 h6 (o6.sublist (((List.Sublist.refl l).cons _ |>.cons _).cons_cons d6)) ?_;unfold ZAf;rw [ek];exact w6
 .refine ZI (x:=ZDZ x) o1 0 rfl rfl ?_;refine ZXQ (m:=ZDZ x) o1 λh2 o2=>?_;refine ZD (λe=>hJ _ _ ⟨o2,?_⟩) λe=>?_
  .unfold okF; rw [show isV (ZDZ x)=false by simpa using e]; rfl
  .refine ZI (x:=x.Seq) o2 0 rfl rfl (hJ _ _ ⟨o2,?_⟩);unfold okF;rw [show isV (ZDZ x)=true by simpa using e,Bool.true_and,Bool.eq_iff_iff];simp
theorem ZPI {x:ZP} {h:Hp} {l:List Hp} (o:On h l) (hw:wfF x) {Q:Sl→Hp→Prop} (hq:∀ s d h',On h' (d::l)→Own (cI .u8) d s (ZAf x)→Q s h'):ZA TP 113 [ZQ.enc x] cSl h Q:=by
 refine c113 ?_;unfold F113;refine ZN (λt h'=>On h' l/\t=!okF x) ?_ λJ hJ=>?_
 ·rintro t h2 ⟨o2,rfl⟩;refine ZD (fun e=>?_) fun e=>?_
  .have ek:okF x=false:=by simpa using e
   have:=hq ⟨none,0,0⟩ Hp.emp h2 o2.emp;unfold ZAf at this;rw [ek] at this;exact this (Own.nil _)
  .have ek:okF x=true:=by simpa using e
   have hn:=(ZMR (m:=ZDZ x) (by unfold okF at ek; rw [Bool.and_eq_true] at ek; exact ek.1)).1;have hr:=ZBb x.Msg_Kind;have hn:0<=Z0 x.Msg_Kind:=hn;refine ZH o2 λk4 h3 o3=>?_;have w0:Own (cI .i64) (ob k4 [Value.int .i64 x.Seq,Value.int .i64 x.Msg_Kind] 2) ⟨some ⟨k4,0,none⟩,2,2⟩ [x.Seq,x.Msg_Kind]:=ZBN (cd:=cI .i64) (xs:=[x.Seq,x.Msg_Kind]) (rest:=[]) rfl rfl rfl;refine Zb (λz h'=>∃ (i:Nat) (d:Hp),z.2=(i:Int)/\(i:Int)<=Z0 x.Msg_Kind/\On h' (d::l)/\Own (cI .i64) d z.1 (x.Seq::x.Msg_Kind::(fs (ZDZ x)).take i)) (λz=>6-z.2.toNat) ⟨0,_,rfl,hn,o3,w0⟩ ?_;rintro J ⟨z,zi⟩ h4 again ⟨i,d,hzi,hle,o4,w4⟩
   dsimp only at hzi w4;subst hzi;refine ZOS o4 λh5 o5=>?_;dsimp only;refine ZJ (λhlt=>?_) λhge=>?_
   .have hi:i<6:=by omega
    obtain ⟨y,hy,hc⟩:=ZWC (ZDZ x) hi;refine ⟨Int.natCast_nonneg i,by omega,ZQd (n:=y) (by rw [Int.toNat_natCast,show 2+i*1=(1+i*1)+1 by omega]; exact hc) ?_⟩;refine ZH o5 λk6 h6 o6=>?_;have r6:Row (cI .i64) (ob k6 [Value.int .i64 y] 2) ⟨some ⟨k6,0,none⟩,1,1⟩ [y]:=Ze rfl rfl;refine ZU (g:=ob k6 [Value.int .i64 y] 2) (s:=z) (t:=⟨some ⟨k6,0,none⟩,1,1⟩) o6.swap rfl w4 (by decide) r6 (o6.mem (by simp)) (by unfold ZAR; simp; omega) λd7 p7 n7 m7 h7 o7 w7=>?_;refine again _ _ ⟨i+1,d7,ZAQ (by omega),by omega,o7.sublist (((List.Sublist.refl l).cons _).cons_cons d7),?_⟩ (by dsimp only; rw [ZAQ (by omega)]; omega);rw [List.take_add_one,hy];exact w7
   .have:i=(Z0 x.Msg_Kind).toNat:=by omega
    subst this;have w4:Own (cI .i64) d z (ZIH x):=w4;have hnl:=ZG4 x;refine ZTy o5 (List.mem_cons_self ..) w4.row (ZGn hw) (by omega) λs6 d6 h6 o6 w6=>?_;refine hq s6 d6 h6 (o6.sublist (((List.Sublist.refl l).cons _).cons_cons d6)) ?_;unfold ZAf;rw [ek];exact w6
 .refine ZJ (λh0=>hJ _ _ ⟨o,?_⟩) λh0=>?_
  .unfold okF; rw [decide_eq_false (p:=0<=x.Seq) (by omega),Bool.and_false]; rfl
  .refine ZZP (m:=ZDZ x) o λh2 o2=>hJ _ _ ⟨o2,?_⟩;unfold okF; rw [decide_eq_true (p:=0<=x.Seq) (by omega),Bool.and_true]
def ZEM (bs:List Int):Option ZP:=
 match ZAO bs with
 | none=>none
 | some (s,k)=>match ZAO (bs.drop k) with
   | none=>none
   | some (t,k2)=>if s<0\/Z0 t<0 then none else (ZJ8 ((bs.drop k).drop k2) (Z0 t)).map λns=>mkF s (mkM t ns)
def ZKv:ZP:=⟨0,0,0,0,0,0,0,0⟩
def ZPD (bs:List Int):ZP×Int:=
 match ZEM bs with
 | none=>(ZKv,2)
 | some x=>(x,0)
theorem ZDU {bs:List Int} (h:ZEM bs=none):ZPD bs=(ZKv,2):=by unfold ZPD; rw [h]
theorem ZGL {bs:List Int} {x:ZP} (h:ZEM bs=some x):ZPD bs=(x,0):=by unfold ZPD; rw [h]
theorem ZQO {bs:List Int} (h:ZAO bs=none):ZEM bs=none:=by unfold ZEM; rw [h]
theorem ZSp {bs:List Int} {s:Int} {k:Nat} (h:ZAO bs=some (s,k)) (h2:ZAO (bs.drop k)=none):ZEM bs=none:=by unfold ZEM; rw [h]; dsimp only; rw [h2]
theorem ZMZ {bs:List Int} {s t:Int} {k k2:Nat} (h:ZAO bs=some (s,k)) (h2:ZAO (bs.drop k)=some (t,k2)):ZEM bs=if s<0\/Z0 t<0 then none else (ZJ8 ((bs.drop k).drop k2) (Z0 t)).map λns=>mkF s (mkM t ns):=by
 conv=>lhs; unfold ZEM
 rw [h]; dsimp only; rw [h2]
theorem ZNq {bs:List Int} {s t:Int} {k k2:Nat} (h:ZAO bs=some (s,k)) (h2:ZAO (bs.drop k)=some (t,k2)) {n:Int} (hn:0<=n):ZJ8 bs (2+n)=(ZJ8 ((bs.drop k).drop k2) n).map λns=>s::t::ns:=by unfold ZJ8;rw [if_neg (by omega),if_neg (by omega),show (2+n).toNat=n.toNat+1+1 by omega,ZBR h,ZBR h2,Option.map_map];rfl
theorem ZWY {b:Nat} {vs:List Value} {e:TypeId} {h g:Hp} {l:List Hp} {s:Sl} {xs:List Int} {len i n:Nat} (o:On h (ob b vs e::l)) (r:Row (cI .i64) g s xs) (hg:g.sub h) (hn:n=s.len) (hlen:n≤len) (hfit:i+xs.length≤vs.length)
 {K:Int->Hp->Prop} (hk:∀ h',On h' (ob b (ZFD vs i (xs.map λx=>Value.int .i64 x)) e::l)->K (n:Nat) h'):ZBG (cI .i64) (some ⟨b,i,none⟩) len s.a n h K:=by
 unfold ZBG;have hl:=r.1;rw [Nat.min_eq_left hlen];have e1:ZG (cI .i64) xs=xs.map λx=>Value.int .i64 x:=by
  clear hk r hfit hl;induction xs with
  | nil=>rfl
  | cons x xs ih=>rw [ZAx,ih]; rfl
 have he:ZCM (cI .i64) s.a s.len h λys=>match some (⟨b,i,none⟩:Addr) with
  | some ad=>h.may ad (n*(cI .i64).n)/\K (n:Nat) (h.wrs ad 0 (ZG (cI .i64) ys))
  | none=>K (n:Nat) h:=by
  refine ZCu r hg ⟨?_,?_⟩
  .refine Hp.sub_may (o.2 _ (by simp)) (ZBK (ZJR b vs e) (by simp; omega) (by intro k _ _; omega))
  .have:=o.wrs (ZJR b vs e) (i:=i) (vs:=ZG (cI .i64) xs) (by rw [e1,List.length_map]; exact hfit)
   rw [e1] at this ⊢
   unfold ob at this hk
   rw [ZH3] at this
   exact hk _ this
 rw [hn] at he ⊢;exact he
theorem ZFG {k1 k2:Nat} {vs:List Value} {v:Value} {h:Hp} {l:List Hp} (o:On h (ob k2 [v] 192::ob k1 vs 161::l)) (hv:vs.length=8) {Q:ZP×Int->Hp->Prop} (hq:∀ h',On h' l->Q (ZKv,2) h'):
 ZBw TP 191 [Value.pointer (some ⟨k1,0,none⟩),Value.pointer (some ⟨k2,0,none⟩)] (some (.iface 293 (.agg #[]))) h λh13=>
  ZC ZQ ⟨k1,0,none⟩ h13 λx3=>ZC (cI .i64) ⟨k2,0,none⟩ h13 λn4=>Q (x3,n4) h13:=by
 refine c191_1 ?_;unfold F191_1;refine ZN (λ_ h'=>h'=h) ?_ λJ hJ=>hJ _ _ rfl;rintro _ h' rfl;refine ZZ (vs':=(ZQ.enc ZKv).cells.toList) (cd:=ZQ) (i:=0) (x:=ZKv) o.swap rfl ?_ (by rw [hv]; exact Nat.le_refl 8) λh1 o1=>?_
 .match vs,hv with
  | [_,_,_,_,_,_,_,_],_=>rfl
 refine ZZ (vs':=[Value.int .i64 2]) (cd:=cI .i64) (i:=0) (x:=(2:Int)) o1.swap rfl rfl (Nat.le_refl 1) λh2 o2=>?_;refine ZI (x:=ZKv) o2 1 rfl rfl ?_;refine ZI (cd:=cI .i64) (x:=(2:Int)) o2 0 rfl rfl ?_;exact hq h2 o2.tail.tail
theorem ZND {p0:Sl} {g h:Hp} {bs:List Int} (hg:g.sub h) (r:Row (cI .u8) g p0 bs) (hb:Zz bs) (hcap:bs.length≤p0.cap) (hl:bs.length≤1000000) {Q:Int×Sl→Hp→Prop} {S:Value→Hp→Prop}
 (hq:∀ v k,ZAO bs=some (v,k)->Q (v,⟨Zm p0.a k p0.cap 1,p0.len-k,p0.cap-k⟩) h) (hs:ZAO bs=none->S (.iface 293 (.agg #[])) h):
 ZEu TP 192 [Value.slice p0.a p0.len p0.cap] (ZW [cI .i64,cSl]) h Q S:=by
 refine c192 ?_;unfold F192;refine ZNt hg r hb hcap hl ?_;cases hv:ZAO bs with
 | none=>
   rw [ZDq hv];refine ZN (λ_ _=>False) (λ_ _ h=>h.elim) λJ hJ=>?_;exact Zh rfl (hs hv)
 | some x=>
   obtain ⟨v,k⟩:=x;obtain ⟨_,_,_,hk,_⟩:=ZCA hb hv;rw [ZE8 hv];refine ZN (λ_ h'=>h'=h) ?_ λJ hJ=>ZT rfl (hJ _ _ rfl);rintro _ h' rfl;refine ⟨Int.natCast_nonneg k,by have:=r.1; dsimp only; omega,?_⟩;rw [show ((v,(k:Int),true).2.1).toNat=k by simp];exact hq v k hv
theorem ZZL (s t:Int) {ns:List Int} (h:ns.length<=6):ZFD (ZQ.enc ⟨s,t,0,0,0,0,0,0⟩).cells.toList 2 (ns.map λx=>Value.int .i64 x)=(ZQ.enc (mkF s (mkM t ns))).cells.toList:=by
 match ns,h with
 | [],_=>rfl
 | [_],_=>rfl
 | [_,_],_=>rfl
 | [_,_,_],_=>rfl
 | [_,_,_,_],_=>rfl
 | [_,_,_,_,_],_=>rfl
 | [_,_,_,_,_,_],_=>rfl
theorem ZNP {p0:Sl} {g h:Hp} {l:List Hp} {bs:List Int} (o:On h l) (hg:g∈l) (r:Row (cI .u8) g p0 bs) (hb:Zz bs) (hcap:bs.length≤p0.cap) (hl:bs.length≤1000000) {Q:ZP×Int→Hp→Prop} (hq:∀ h',On h' l→Q (ZPD bs) h'):
 ZA TP 116 [Value.slice p0.a p0.len p0.cap] (ZW [ZQ,cI .i64]) h Q:=by
 refine c116 ?_;unfold F116;refine ZH o λk1 h1 o1=>?_;refine ZH o1 λk2 h2 o2=>?_;refine ZND (o2.mem (by simp [hg])) r hb hcap hl (λs k hs=>?_) λhs=>?_
 ·obtain ⟨_,_,_,hk,_⟩:=ZCA hb hs;refine ZND (p0:=⟨Zm p0.a k p0.cap 1,p0.len-k,p0.cap-k⟩) (o2.mem (by simp [hg])) (ZOV r hcap hk) (hb.drop k) (by simp; omega) (by simp; omega) (fun t k2' ht=>?_) fun ht=>?_
  ·have hread:=ZMZ hs ht;have hr:=ZBb t;refine ZLr ?_;refine ZN (fun _ h'=>h'=h2∧0≤s∧0≤Z0 t) ?_ fun J2 hJ2=>?_
   ·rintro _ h5 ⟨rfl,h0,hn0⟩;rw [if_neg (by omega)] at hread;dsimp only;rw [w64 (by omega) (by omega)];refine ZZo o2 (g:=g) (by simp [hg]) r hb hcap hl (fun hn h6 o6=>?_) fun ns hns s6 d6 h6 o6 w6=>?_
    .refine ZN (λ_ _=>False) (λ_ _ h=>h.elim) λJ hJ=>Zh rfl ?_;rw [ZNq hs ht hn0,Option.map_eq_none_iff] at hn;rw [hn] at hread;exact ZFG o6 rfl λh' o'=>by have:=hq h' o'; rw [ZDU hread] at this; exact this
    ·rw [ZNq hs ht hn0,Option.map_eq_some_iff] at hns;obtain ⟨ns,hns,rfl⟩:=hns;rw [hns] at hread;have hlen:ns.length=(Z0 t).toNat:=by unfold ZJ8 at hns;rw [if_neg (by omega)] at hns;exact (ZJK _ _ _ ((hb.drop k).drop k2') hns).1
     have hsl:s6.len=ns.length+2:=w6.1;have hcap6:ns.length+2<=s6.cap:=w6.le_cap (by decide);refine ZN (λ_ h'=>h'=h6) ?_ λJ hJ=>ZT rfl (hJ _ _ rfl);rintro _ h7 rfl;have o7:On h7 (ob k1 [Value.int .i64 0,Value.int .i64 0,Value.int .i64 0,Value.int .i64 0,Value.int .i64 0,Value.int .i64 0,Value.int .i64 0,Value.int .i64 0] 161::ob k2 [Value.int .i64 0] 192::d6::l):=o6.pick [2,1,0] 3 (by decide) (by decide);refine ZZ (vs':=(ZQ.enc ⟨s,t,0,0,0,0,0,0⟩).cells.toList) (cd:=ZQ) (i:=0) (x:=(⟨s,t,0,0,0,0,0,0⟩:ZP)) o7 rfl rfl (Nat.le_refl 8) λh8 o8=>?_;refine ⟨by omega,by dsimp only; omega,?_⟩;have rc:=w6.row.cut (k:=2) (m:=ns.length+2) (cap':=0) (by omega) (Nat.le_refl (ns.length+2)) hcap6 rfl (z:=1) rfl
     have rc:Row (cI .i64) d6 ⟨Zm s6.a 2 s6.cap 1,ns.length,0⟩ ns:=by
          have e:((s::t::ns).drop 2).take (ns.length+2-2)=ns:=by show ns.take (ns.length+2-2)=ns;exact List.take_of_length_le (by omega)
          rw [e] at rc;exact rc
     refine ZWY (s:=⟨Zm s6.a 2 s6.cap 1,ns.length,0⟩) (n:=s6.len-2) o8 rc (o8.mem (by simp)) (by dsimp only; omega) (by omega) (by show 2+ns.length<=8; omega) λh9 o9=>?_;rw [ZZL s t (by omega)] at o9;refine ZI (x:=mkF s (mkM t ns)) o9 0 rfl rfl ?_;refine ZZ (vs':=(ZQ.enc (mkF s (mkM t ns))).cells.toList) (cd:=ZQ) (i:=0) (x:=mkF s (mkM t ns)) o9 rfl rfl (Nat.le_refl 8) λha oa=>?_;refine ZZ (vs':=[Value.int .i64 0]) (cd:=cI .i64) (i:=0) (x:=(0:Int)) oa.swap rfl rfl (Nat.le_refl 1) λhb' ob'=>?_;refine c191_0 ?_;unfold F191_0;refine ZI (x:=mkF s (mkM t ns)) ob' 1 rfl rfl ?_;refine ZI (cd:=cI .i64) (x:=(0:Int)) ob' 0 rfl rfl ?_;have:=hq hb' ob'.tail.tail.tail;rw [ZGL hread] at this;exact this
   .refine ZN (λb h'=>h'=h2/\(b=true->s<0\/Z0 t<0)/\(b=false->0<=s/\0<=Z0 t)) ?_ λJ3 hJ3=>?_
    .rintro b h' ⟨rfl,hT,hF⟩;refine ZD (λe=>?_) λe=>hJ2 _ _ ⟨rfl,hF e⟩;rw [if_pos (hT e)] at hread;exact ZFG o2 rfl λh' o'=>by have:=hq h' o'; rw [ZDU hread] at this; exact this
    .refine ZJ (λh0=>hJ3 _ _ ⟨rfl,λ_=>.inl h0,λh=>(by cases h)⟩) λh0=>hJ3 _ _ ⟨rfl,λh=>.inr (of_decide_eq_true h),λh=>?_⟩;have:=of_decide_eq_false h;dsimp only at h0 this;omega
  .have hread:=ZSp hs ht;exact ZFG o2 rfl λh' o'=>by have:=hq h' o'; rw [ZDU hread] at this; exact this
 .have hread:=ZQO hs;exact ZFG o2 rfl λh' o'=>by have:=hq h' o'; rw [ZDU hread] at this; exact this
theorem ZQy:∀ (ns:List Int) (n:Nat) (l:List Int),(∀ x∈ns,I64 x)→ZLl n (ZEi ns)=some l→l=ns∧n=ns.length
 | [],0,l,_,h=>by
   have h:some []=some l:=h;cases h; exact ⟨rfl,rfl⟩
 | [],n+1,l,_,h=>by
   rw [ZEn rfl] at h; cases h
 | a::t,0,l,hn,h=>by
   have hp:=ZNd a;rw [ZBU] at h;cases hc:ZKn a++ZEi t with
   | nil=>rw [List.append_eq_nil_iff] at hc; rw [hc.1] at hp; cases hp
   | cons x y=>rw [hc] at h; cases h
 | a::t,n+1,l,hn,h=>by have h1:=ZEe (hn a (by simp)) (ZEi t);rw [ZBU,ZBR h1,List.drop_append_of_le_length (Nat.le_refl _),List.drop_length,List.nil_append,Option.map_eq_some_iff] at h;obtain ⟨l',h2,rfl⟩:=h;obtain ⟨rfl,rfl⟩:=ZQy t n l' (λx hx=>hn x (by simp [hx])) h2;exact ⟨rfl,rfl⟩
theorem ZTF {s k:Int} {ns:List Int} (h:∀ x∈s::k::ns,I64 x):ZEM (ZEi (s::k::ns))=if 0≤s∧(ns.length:Int)=Z0 k then some (mkF s (mkM k ns)) else none:=by
 have h1:=ZEe (h s (by simp)) (ZEi (k::ns));have h2:=ZEe (h k (by simp)) (ZEi ns);have e1:(ZEi (s::k::ns)).drop (ZKn s).length=ZEi (k::ns):=by rw [ZBU,List.drop_append_of_le_length (Nat.le_refl _),List.drop_length,List.nil_append]
 have e2:(ZEi (k::ns)).drop (ZKn k).length=ZEi ns:=by rw [ZBU,List.drop_append_of_le_length (Nat.le_refl _),List.drop_length,List.nil_append]
 have hns:∀ x∈ns,I64 x:=λx hx=>h x (by simp [hx]);rw [<-ZBU] at h1 h2;rw [ZMZ h1 (by rw [e1]; exact h2),e1,e2];by_cases hb:s<0\/Z0 k<0
 .rw [if_pos hb,if_neg (by omega)]
 ·rw [if_neg hb];by_cases hl:(ns.length:Int)=Z0 k
  .rw [if_pos ⟨by omega,hl⟩,ZVF hns hl.symm]; rfl
  ·rw [if_neg (fun hh=>hl hh.2)];cases hg:ZJ8 (ZEi ns) (Z0 k) with
   | none=>rfl
   | some l=>
     unfold ZJ8 at hg;rw [if_neg (by omega)] at hg;obtain ⟨_,e⟩:=ZQy ns _ l hns hg;omega
theorem ZE5 {x:ZP} (hw:wfF x) (hk:okF x=true):ZEM (ZAf x)=some x:=by unfold ZAf;rw [hk,cond_true];have hk':=hk;unfold okF at hk;rw [Bool.and_eq_true,decide_eq_true_eq] at hk;obtain ⟨h0,h1⟩:=ZMR hk.1;have h0:0<=Z0 x.Msg_Kind:=h0;have h6:=ZBb x.Msg_Kind;unfold ZIH;rw [ZTF (ZGn hw),if_pos ⟨hk.2,by rw [List.length_take,ZEI]; omega⟩];have h1:mkM x.Msg_Kind ((fs (ZDZ x)).take (Z0 x.Msg_Kind).toNat)=ZDZ x:=h1;rw [h1]; rfl
structure SS where
 beat:Nat
 up:Bool
 want:Nat
 all:List ZP
 asked:Nat
 sent:Nat
 heard:Nat
instance (n:Nat) (seq:Int):Decidable (ZEE n seq):=by unfold ZEE; exact inferInstance
def ZFE (k v:Int):ZP:=⟨0,k,v,0,0,0,0,0⟩
def ZJZ:Msg:=⟨0,0,0,0,0,0,0⟩
def ZOQ (s:SS) (v:Int):SS×List ZP:=
 if ZEE s.all.length v then ({s with up:=false},[]) else ({s with up:=true,asked:=0,sent:=0,heard:=0},ZFE 1 s.want::s.all.drop (v-1).toNat)
def ZXY (s:SS) (k v:Int):SS×List ZP×Bool:=
 if k=3 then ({s with sent:=0},[ZFE 2 0],false)
 else if k=4 then
  if ZEE s.all.length v then ({s with up:=false},[ZFE 5 0],true)
  else ({s with sent:=if (s.all.drop (v-1).toNat).length=0 then s.sent else 0},s.all.drop (v-1).toNat,false)
 else if k=5 then ({s with up:=false},[],true)
 else (s,[],false)
def ZFv (s:SS) (x:ZP):SS×List ZP×Msg×Bool:=
 if ¬(6<=x.Msg_Kind/\x.Msg_Kind<=17) then (s,[],ZJZ,false)
 else if x.Seq=s.want then ({s with want:=s.want+1},[],ZDZ x,true)
 else if (s.want:Int)<x.Seq/\s.asked≠s.want then ({s with asked:=s.want,sent:=0},[ZFE 4 s.want],ZJZ,false)
 else (s,[],ZJZ,false)
def Zo (s:SS) (x:ZP):SS×List ZP×Msg×Bool×Bool:=
 if x.Seq=0/\x.Msg_Kind=1 then ((ZOQ s x.Msg_F_0).1,(ZOQ s x.Msg_F_0).2,ZJZ,false,s.up&&!(ZOQ s x.Msg_F_0).1.up)
 else if s.up=false then (s,[],ZJZ,false,false)
 else if x.Seq=0 then ((ZXY {s with heard:=0} x.Msg_Kind x.Msg_F_0).1,(ZXY {s with heard:=0} x.Msg_Kind x.Msg_F_0).2.1,ZJZ,false,(ZXY {s with heard:=0} x.Msg_Kind x.Msg_F_0).2.2)
 else ((ZFv {s with heard:=0} x).1,(ZFv {s with heard:=0} x).2.1,(ZFv {s with heard:=0} x).2.2.1,(ZFv {s with heard:=0} x).2.2.2,false)
def ZCb (s:SS):SS×List ZP×Bool:=
 if s.up=false then (s,[],false)
 else if s.heard+1=3*s.beat then ({s with up:=false,sent:=s.sent+1,heard:=s.heard+1},[ZFE 5 0],true)
 else if s.heard+1=2*s.beat then ({s with sent:=0,heard:=s.heard+1},[ZFE 3 0],false)
 else if s.beat<=s.sent+1 then ({s with sent:=0,heard:=s.heard+1},[ZFE 2 0],false)
 else ({s with sent:=s.sent+1,heard:=s.heard+1},[],false)
def ZZy (k:Int):Bool:=decide (1<=k/\k<=5)
def ZAm (s:SS) (m:Msg):SS×ZP×Bool:=
 if isV m=false\/ZZy m.Kind=true then (s,ZKv,false)
 else ({s with all:=s.all++[mkF (s.all.length+1:Nat) m],sent:=if s.up=true then 0 else s.sent},mkF (s.all.length+1:Nat) m,s.up)
def ZMF (s:SS):SS×Bool:=({s with up:=false},s.up)
def ZW7 (n:Nat):SS:=⟨n,false,1,[],0,0,0⟩
def ZBJ (beat:Nat) (up:Bool) (want:Nat) (kp:Option Addr) (a b c:Int):List Value:=[.int .i64 beat,.bool up,.int .i64 want,.pointer kp,.int .i64 a,.int .i64 b,.int .i64 c]
def IsS (K:Option Addr->List ZP->Hp->Prop) (lay:SS->Nat×Nat×Nat) (e:TypeId) (p:Option Addr) (s:SS) (c:Hp):Prop:=
 ∃ (b:Nat) (kp:Option Addr) (ck:Hp) (x:Nat×Nat×Nat),p=some ⟨b,0,none⟩/\On c [ob b (ZBJ s.beat s.up s.want kp x.1 x.2.1 x.2.2) e,ck]/\K kp s.all ck/\(s.up=true->x=lay s)
def ZNh (s:SS):Nat×Nat×Nat:=(s.asked,s.sent,s.heard)
def ZB6:=IsS ZCX ZNh 276
theorem ZG3 {K:Option Addr->List ZP->Hp->Prop} {lay:SS->Nat×Nat×Nat} {e:TypeId} {b:Nat} {kp:Option Addr} {ck h:Hp} {l:List Hp} {s:SS} (x:Nat×Nat×Nat)
 (o:On h (ob b (ZBJ s.beat s.up s.want kp x.1 x.2.1 x.2.2) e::ck::l)) (k:K kp s.all ck) (hx:s.up=true->x=lay s):∃ c,On h (c::l)/\IsS K lay e (some ⟨b,0,none⟩) s c:=by
 obtain ⟨o1,o2⟩:=On.joined (cs:=[_,ck]) (l:=l) o;exact ⟨_,o1,b,kp,ck,x,rfl,o2,k,hx⟩
theorem ZUL {K:Option Addr->List ZP->Hp->Prop} {lay:SS->Nat×Nat×Nat} {e:TypeId} {p:Option Addr} {s:SS} {c:Hp} (w:IsS K lay e p s c):∃ b,p=some ⟨b,0,none⟩:=by obtain ⟨b,_,_,_,h,_⟩:=w;exact ⟨b,h⟩
theorem ZH1 {k v:Int} {h:Hp} {Q:ZP->Hp->Prop} (hq:Q (ZFE k v) h):ZA TP 261 [Value.int .i64 k,Value.int .i64 v] ZQ h Q:=by refine c261 ?_;unfold F261;exact ⟨by decide,by decide,hq⟩
theorem ZZ8 {k:Int} {h:Hp} {Q:Bool->Hp->Prop} (hq:Q (ZZy k) h):ZA TP 318 [Value.int .i64 k] cB h Q:=by
 unfold ZZy at hq;refine c318 ?_;unfold F318;refine ZJ (λe=>?_) λe=>?_
 .rw [decide_eq_decide.2 (show (1<=k/\k<=5)↔k<=5 by omega)] at hq; exact hq
 .rw [decide_eq_false (by omega)] at hq; exact hq
theorem ZZE {k:Int} {h:Hp} {Q:Bool->Hp->Prop} (hq:Q (decide (6<=k/\k<=17)) h):ZA TP 128 [Value.int .i64 k] cB h Q:=by
 refine c128 ?_;unfold F128;refine ZJ (λe=>?_) λe=>?_
 .rw [decide_eq_decide.2 (show (6<=k/\k<=17)↔k<=17 by omega)] at hq; exact hq
 .rw [decide_eq_false (by omega)] at hq; exact hq
theorem ZFL {x:ZP} {h:Hp} {l:List Hp} (o:On h l) {K:Nat->Hp->Prop} (hk:∀ k d h',On h' (d::l)->Row ZQ d ⟨some ⟨k,0,none⟩,1,1⟩ [x]->Own ZQ d ⟨some ⟨k,0,none⟩,1,1⟩ [x]->K k h'):ZM (Obj.cells (ZQ.enc x).cells 161) h K:=by refine ZH o λk h' o'=>?_;exact hk k _ h' o' (Ze (cd:=ZQ) (xs:=[x]) rfl rfl) (ZBN (cd:=ZQ) (xs:=[x]) (rest:=[]) rfl rfl rfl)
theorem ZVO {n:Int} {h:Hp} {l:List Hp} (o:On h l) {Q:Option Addr->Hp->Prop} (h0:n<1\/1000<n->Q none h) (h1:1<=n->n<=1000->∀ p c h',On h' (c::l)->ZB6 p (ZW7 n.toNat) c->Q p h'):ZA TP 104 [Value.int .i64 n] cP h Q:=by
 refine c104 ?_;unfold F104;refine ZN (λt h'=>h'=h/\(t=true->n<1\/1000<n)/\(t=false->1<=n/\n<=1000)) ?_ λJ hJ=>?_
 .rintro t h' ⟨rfl,ht,hf⟩;refine ZD (λe=>h0 (ht e)) λe=>?_;obtain ⟨a,b⟩:=hf e;refine ZXk o λkp ck h2 o2 wk=>?_;refine ZH o2 λk3 h3 o3=>?_;obtain ⟨m,rfl⟩:∃ m:Nat,n=m:=⟨n.toNat,by omega⟩
  obtain ⟨c,o4,w4⟩:=ZG3 (s:=ZW7 m) (lay:=ZNh) (K:=ZCX) (0,0,0) o3 wk (λh=>by cases h);exact h1 a b _ c h3 o4 w4
 .refine ZJ (λe=>hJ _ _ ⟨rfl,λ_=>.inl e,λh=>(by cases h)⟩) λe=>hJ _ _ ⟨rfl,λh=>.inr (of_decide_eq_true h),λh=>?_⟩;have h:=of_decide_eq_false h;omega
theorem ZWQ {p:Option Addr} {s:SS} {c h:Hp} (hc:c.sub h) (w:ZB6 p s c) {Q:Bool->Hp->Prop} (hq:Q s.up h):ZA TP 111 [Value.pointer p] cB h Q:=by obtain ⟨b,kp,ck,x,rfl,oc,wk,hx⟩:=w;refine c111 ?_;unfold F111;dsimp only [ZR];exact Zh rfl ⟨s.up,Hp.sub_rds (Hp.sub_trans (oc.get (i:=0) rfl) hc) (ZCS rfl),hq⟩
theorem ZNv {p:Option Addr} {s:SS} {c h:Hp} {l:List Hp} (o:On h (c::l)) (w:ZB6 p s c) {Q:Bool->Hp->Prop} (hq:∀ c' h',On h' (c'::l)->ZB6 p (ZMF s).1 c'->Q (ZMF s).2 h'):ZA TP 109 [Value.pointer p] cB h Q:=by
 have w':=w;obtain ⟨b,kp,ck,x,rfl,oc,wk,hx⟩:=w;refine c109 ?_;unfold F109;dsimp only [ZR];have os:=o.split oc;unfold ZMF at hq;refine ZN (λt h'=>h'=h/\t=!s.up) ?_ λJ hJ=>ZT rfl (ZI (x:=s.up) os 0 rfl rfl (hJ _ _ ⟨rfl,rfl⟩));rintro t h' ⟨rfl,rfl⟩;refine ZD (λe=>?_) λe=>?_
 .have e:s.up=false:=by simpa using e
  have:=hq c h' o;rw [e] at this;obtain ⟨beat,up,want,all,asked,sent,heard⟩:=s;cases e;exact this w'
 .have e:s.up=true:=by simpa using e
  refine ZZ (cd:=cB) (i:=1) (x:=false) (vs':=ZBJ s.beat false s.want kp x.1 x.2.1 x.2.2) os rfl rfl (by show 1+1<=7; omega) λh1 o1=>?_;obtain ⟨c',o2,w2⟩:=ZG3 (s:={s with up:=false}) (lay:=ZNh) (K:=ZCX) (e:=276) x o1 wk (λh=>by cases h);have:=hq c' h1 o2 w2;rw [e] at this;exact this
theorem ZSI {b:Nat} {kp:Option Addr} {ck h:Hp} {l:List Hp} {beat want:Nat} {up:Bool} {all:List ZP} {a4 a5 a6:Nat} {v:Int} (o:On h (ob b (ZBJ beat up want kp a4 a5 a6) 276::ck::l)) (wk:ZCX kp all ck) (hl:all.length<=1000000000) (hs:I64 v)
 {Q:Sl×Bool->Hp->Prop} (h0:ZEE all.length v->∀ h',On h' (ob b (ZBJ beat false want kp a4 a5 a6) 276::ck::l)->Q (⟨none,0,0⟩,false) h')
 (h1:¬ZEE all.length v->∀ sl d h',On h' (ob b (ZBJ beat true want kp 0 a5 0) 276::ck::d::l)->Row ZQ d sl (ZFE 1 want::all.drop (v-1).toNat)->Q (sl,true) h'):
 ZA TP 265 [Value.pointer (some ⟨b,0,none⟩),Value.int .i64 v] (ZW [cSl,cB]) h Q:=by
 refine c265 ?_;unfold F265;dsimp only [ZR];refine ZI (x:=kp) o 0 rfl rfl ?_;refine ZNc o.swap wk hl hs (λhg=>?_) λhg s d h2 o2 w2=>?_
 .refine ZZ (cd:=cB) (i:=1) (x:=false) (vs':=ZBJ beat false want kp a4 a5 a6) o rfl rfl (by show 1+1<=7; omega) λh1 o1=>?_;exact Zh rfl (h0 hg h1 o1)
 .have o2':On h2 (ob b (ZBJ beat up want kp a4 a5 a6) 276::ck::d::l):=o2.pick [2,1,0] 3 (by decide) (by decide);refine ZZ (cd:=cB) (i:=1) (x:=true) (vs':=ZBJ beat true want kp a4 a5 a6) o2' rfl rfl (by show 1+1<=7; omega) λh3 o3=>?_;refine ZT rfl ?_;refine ZZ (cd:=cI .i64) (i:=6) (x:=(0:Int)) (vs':=ZBJ beat true want kp a4 a5 0) o3 rfl rfl (by show 6+1<=7; omega) λh4 o4=>?_;refine ZZ (cd:=cI .i64) (i:=4) (x:=(0:Int)) (vs':=ZBJ beat true want kp 0 a5 0) o4 rfl rfl (by show 4+1<=7; omega) λh5 o5=>?_;refine ZI (cd:=cI .i64) (x:=(want:Int)) o5 0 rfl rfl ?_;refine ZH1 ?_;refine ZFL (x:=ZFE 1 want) o5 λk6 d6 h6 o6 r6 w6=>?_;refine ZU (g:=d) (s:=⟨some ⟨k6,0,none⟩,1,1⟩) (t:=s) o6 rfl w6 (by decide) w2.row (o6.mem (by simp)) (by unfold ZAR; simp; omega) λd7 p7 n7 m7 h7 o7 w7=>?_;exact h1 hg ⟨p7,n7,m7⟩ d7 h7 (o7.pick [1,2,0] 4 (by decide) (by decide)) w7.row
theorem ZUS {b:Nat} {kp:Option Addr} {ck h:Hp} {l:List Hp} {s:SS} {x:ZP} (o:On h (ob b (ZBJ s.beat true s.want kp s.asked s.sent s.heard) 276::ck::l)) (wk:ZCX kp s.all ck) (hup:s.up=true) (hl:s.all.length≤1000000000) (hw:s.want≤1000000) (hs:I64 x.Msg_F_0) (hne:x.Seq≠0)
 {Q:Sl×Msg×Bool->Hp->Prop} (hq:∀ sl d h',On h' (ob b (ZBJ s.beat true (ZFv s x).1.want kp (ZFv s x).1.asked s.sent s.heard) 276::ck::d::l)->Row ZQ d sl (ZFv s x).2.1->Q (sl,(ZFv s x).2.2.1,(ZFv s x).2.2.2) h'):
 ZA TP 266 [Value.pointer (some ⟨b,0,none⟩),ZQ.enc x] (ZW [cSl,ZAn,cB]) h Q:=by
 refine c266 ?_;unfold F266;dsimp only [ZR];have oe:On h (ob b (ZBJ s.beat true s.want kp s.asked s.sent s.heard) 276::ck::Hp.emp::l):=o.emp.pick [1,2,0] 3 (by decide) (by decide);refine ZT (by simpa using hne) ?_;refine ZZE ?_;unfold ZFv at hq;by_cases hk:6<=x.Msg_Kind/\x.Msg_Kind<=17
 ·rw [if_neg (by simpa using hk)] at hq;refine ZT (by rw [decide_eq_true hk]; rfl) ?_;refine ZI (cd:=cI .i64) (x:=(s.want:Int)) o 0 rfl rfl ?_;by_cases he:x.Seq=(s.want:Int)
  .rw [if_pos he] at hq;refine Zh (by simpa using he) ?_;refine ZI (cd:=cI .i64) (x:=(s.want:Int)) o 0 rfl rfl ?_;rw [ZAQ (by omega)];refine ZZ (cd:=cI .i64) (i:=2) (x:=((s.want+1:Nat):Int)) (vs':=ZBJ s.beat true (s.want+1) kp s.asked s.sent s.heard) oe rfl rfl (by show 2+1<=7; omega) λh3 o3=>?_;exact hq ⟨none,0,0⟩ Hp.emp h3 o3 (Row.nil _)
  .rw [if_neg he] at hq;refine ZT (by simpa using he) ?_;refine ZN (λt h'=>h'=h/\t=decide ((s.want:Int)<x.Seq/\s.asked≠s.want)) ?_ λJ hJ=>?_
   .rintro t h' ⟨rfl,rfl⟩;refine ZJ (λha=>?_) λha=>?_
    .rw [if_pos ha] at hq;refine ZI (cd:=cI .i64) (x:=(s.want:Int)) o 0 rfl rfl ?_;refine ZZ (cd:=cI .i64) (i:=4) (x:=(s.want:Int)) (vs':=ZBJ s.beat true s.want kp s.want s.sent s.heard) o rfl rfl (by show 4+1<=7; omega) λh3 o3=>?_;refine ZI (cd:=cI .i64) (x:=(s.want:Int)) o3 0 rfl rfl ?_;refine ZH1 ?_;refine ZFL (x:=ZFE 4 s.want) o3 λk6 d6 h6 o6 r6 w6=>?_;exact hq _ d6 h6 (o6.pick [1,2,0] 3 (by decide) (by decide)) r6
    .rw [if_neg ha] at hq;exact hq ⟨none,0,0⟩ Hp.emp h' oe (Row.nil _)
   .refine ZI (cd:=cI .i64) (x:=(s.want:Int)) o 0 rfl rfl ?_;refine ZJ (λhgt=>?_) λhle=>?_
    .refine ZI (cd:=cI .i64) (x:=(s.asked:Int)) o 0 rfl rfl ?_;refine ZI (cd:=cI .i64) (x:=(s.want:Int)) o 0 rfl rfl ?_;refine hJ _ _ ⟨rfl,?_⟩;rw [Bool.eq_iff_iff];simp only [bne_iff_ne,ne_eq,decide_eq_true_eq];omega
    .exact hJ _ _ ⟨rfl,(decide_eq_false (by omega)).symm⟩
 .rw [if_pos hk] at hq;refine Zh (by rw [decide_eq_false hk]; rfl) ?_;exact hq ⟨none,0,0⟩ Hp.emp h oe (Row.nil _)
def ZQD (s:SS) (k v:Int):SS×List ZP:=
 if k=1 then (if ZEE s.all.length v then ({s with up:=false},[]) else ({s with up:=true,asked:=0,heard:=0},ZFE 1 s.want::s.all.drop (v-1).toNat))
 else if k=3 then (s,[ZFE 2 0])
 else if k=4 then (if ZEE s.all.length v then ({s with up:=false},[ZFE 5 0]) else (s,s.all.drop (v-1).toNat))
 else if k=5 then ({s with up:=false},[])
 else (s,[])
def cellsOf (s:SS) (kp:Option Addr):List Value:=ZBJ s.beat s.up s.want kp s.asked s.sent s.heard
theorem ZOc {b:Nat} {kp:Option Addr} {ck h:Hp} {l:List Hp} {s:SS} {m:Msg} (o:On h (ob b (cellsOf s kp) 276::ck::l)) (wk:ZCX kp s.all ck) (hl:s.all.length≤1000000000) (hs:I64 m.F_0)
 {Q:Sl->Hp->Prop} (hq:∀ sl d h',On h' (ob b (cellsOf (ZQD s m.Kind m.F_0).1 kp) 276::ck::d::l)->Row ZQ d sl (ZQD s m.Kind m.F_0).2->Q sl h'):
 ZA TP 317 [Value.pointer (some ⟨b,0,none⟩),ZAn.enc m] cSl h Q:=by
 refine c317 ?_;unfold F317;dsimp only [ZR];unfold ZQD at hq;have oe:On h (ob b (cellsOf s kp) 276::ck::Hp.emp::l):=o.emp.pick [1,2,0] 3 (by decide) (by decide);by_cases h1:m.Kind=1
 .rw [if_pos h1] at hq;refine ZN (λ_ _=>False) (λ_ _ h=>h.elim) λJ hJ=>Zh (by simpa using h1) ?_;refine ⟨by decide,by decide,?_⟩;refine ZSI o wk hl hs (λhg h2 o2=>?_) λhg sl d h2 o2 r2=>?_
  .rw [if_pos hg] at hq;exact hq _ Hp.emp h2 (o2.emp.pick [1,2,0] 3 (by decide) (by decide)) (Row.nil _)
  .rw [if_neg hg] at hq;exact hq sl d h2 o2 r2
 ·rw [if_neg h1] at hq;by_cases h3:m.Kind=3
  .rw [if_pos h3] at hq;refine ZN (λ_ _=>False) (λ_ _ h=>h.elim) λJ hJ=>ZT (by simpa using h1) (Zh (by simpa using h3) ?_);refine ZH1 ?_;refine ZFL (x:=ZFE 2 0) o λk6 d6 h6 o6 r6 w6=>?_;exact hq _ d6 h6 (o6.pick [1,2,0] 3 (by decide) (by decide)) r6
  ·rw [if_neg h3] at hq;by_cases h4:m.Kind=4
   .rw [if_pos h4] at hq;refine ZN (λ_ _=>False) (λ_ _ h=>h.elim) λJ hJ=>ZT (by simpa using h1) (ZT (by simpa using h3) (Zh (by simpa using h4) ?_));refine ⟨by decide,by decide,?_⟩;refine ZI (x:=kp) o 0 rfl rfl ?_;refine ZNc o.swap wk hl hs (λhg=>?_) λhg sl d h2 o2 w2=>?_
    .rw [if_pos hg] at hq;refine Zh rfl ?_;refine ZZ (cd:=cB) (i:=1) (x:=false) (vs':=cellsOf {s with up:=false} kp) o rfl rfl (by show 1+1<=7; omega) λh5 o5=>?_;refine ZH1 ?_;refine ZFL (x:=ZFE 5 0) o5 λk6 d6 h6 o6 r6 w6=>?_;exact hq _ d6 h6 (o6.pick [1,2,0] 3 (by decide) (by decide)) r6
    .rw [if_neg hg] at hq;exact ZT rfl (hq sl d h2 (o2.pick [2,1,0] 3 (by decide) (by decide)) w2.row)
   .rw [if_neg h4] at hq;by_cases h5:m.Kind=5
    .rw [if_pos h5] at hq;refine ZN (λ_ h'=>On h' (ob b (cellsOf {s with up:=false} kp) 276::ck::l)) ?_ λJ hJ=>ZT (by simpa using h1) (ZT (by simpa using h3) (ZT (by simpa using h4) (Zh (by simpa using h5) ?_)))
     .intro _ h' o';exact hq _ Hp.emp h' (o'.emp.pick [1,2,0] 3 (by decide) (by decide)) (Row.nil _)
     .refine ZZ (cd:=cB) (i:=1) (x:=false) (vs':=cellsOf {s with up:=false} kp) o rfl rfl (by show 1+1<=7; omega) λh5 o5=>?_;exact hJ _ _ o5
    .rw [if_neg h5] at hq;refine ZN (λ_ h'=>h'=h) ?_ λJ hJ=>ZT (by simpa using h1) (ZT (by simpa using h3) (ZT (by simpa using h4) (ZT (by simpa using h5) (hJ _ _ rfl))));rintro _ h' rfl;exact hq _ Hp.emp h' oe (Row.nil _)
theorem ZQi (s:SS) (x:ZP):(ZFv s x).1.beat=s.beat∧(ZFv s x).1.up=s.up∧(ZFv s x).1.all=s.all∧(ZFv s x).1.heard=s.heard∧(ZFv s x).1.sent=if (ZFv s x).2.1.length=0 then s.sent else 0:=by
 unfold ZFv;split
 .exact ⟨rfl,rfl,rfl,rfl,rfl⟩
 .split
  .exact ⟨rfl,rfl,rfl,rfl,rfl⟩
  .split
   .exact ⟨rfl,rfl,rfl,rfl,rfl⟩
   .exact ⟨rfl,rfl,rfl,rfl,rfl⟩
def Fin (s1:SS) (fs:List ZP) (t:SS):Prop:=
 s1.beat=t.beat/\s1.up=t.up/\s1.want=t.want/\s1.all=t.all/\(t.up=true->s1.asked=t.asked/\s1.heard=t.heard/\t.sent=if fs.length=0 then s1.sent else 0)
theorem ZVQ (s:SS) (x:ZP) (hup:s.up=true) (h0:x.Seq=0):(ZQD {s with heard:=0} x.Msg_Kind x.Msg_F_0).2=(Zo s x).2.1∧(Zo s x).2.2=(ZJZ,false,!(ZQD {s with heard:=0} x.Msg_Kind x.Msg_F_0).1.up)∧Fin (ZQD {s with heard:=0} x.Msg_Kind x.Msg_F_0).1 (ZQD {s with heard:=0} x.Msg_Kind x.Msg_F_0).2 (Zo s x).1:=by
 obtain ⟨beat,up,want,all,asked,sent,heard⟩:=s;have hup:up=true:=hup;subst hup;unfold Zo ZQD;by_cases h1:x.Msg_Kind=1
 .rw [if_pos h1,if_pos (show x.Seq=0/\x.Msg_Kind=1 from ⟨h0,h1⟩)];unfold ZOQ;by_cases hg:ZEE all.length x.Msg_F_0
  .simp only [hg,↓reduceIte]; refine ⟨?_,?_,?_,?_,?_,?_,?_⟩<;>first|rfl|trivial|(intro h; cases h)
  .simp only [hg,↓reduceIte]; refine ⟨?_,?_,?_,?_,?_,?_,?_⟩<;>first|rfl|trivial|(intro _; exact ⟨rfl,rfl,rfl⟩)
 ·rw [if_neg h1,if_neg (show ¬(x.Seq=0∧x.Msg_Kind=1) from fun h=>h1 h.2),if_neg (show ¬(true=false) by simp),if_pos h0];unfold ZXY;by_cases h3:x.Msg_Kind=3
  .rw [if_pos h3,if_pos h3]; exact ⟨rfl,rfl,rfl,rfl,rfl,rfl,λ_=>⟨rfl,rfl,rfl⟩⟩
  .rw [if_neg h3,if_neg h3];by_cases h4:x.Msg_Kind=4
   .rw [if_pos h4,if_pos h4];by_cases hg:ZEE all.length x.Msg_F_0
    .simp only [hg,↓reduceIte]; refine ⟨?_,?_,?_,?_,?_,?_,?_⟩<;>first|rfl|trivial|(intro h; cases h)
    .simp only [hg,↓reduceIte]; refine ⟨?_,?_,?_,?_,?_,?_,?_⟩<;>first|rfl|trivial|(intro _; exact ⟨rfl,rfl,rfl⟩)
   .rw [if_neg h4,if_neg h4];by_cases h5:x.Msg_Kind=5
    .rw [if_pos h5,if_pos h5]; exact ⟨rfl,rfl,rfl,rfl,rfl,rfl,λh=>by cases h⟩
    .rw [if_neg h5,if_neg h5]; exact ⟨rfl,rfl,rfl,rfl,rfl,rfl,λ_=>⟨rfl,rfl,rfl⟩⟩
theorem ZSh {p:Option Addr} {s:SS} {x:ZP} {c h:Hp} {l:List Hp} (o:On h (c::l)) (w:ZB6 p s c) (hl:s.all.length≤1000000000) (hw:s.want≤1000000) (hs:I64 x.Msg_F_0)
 {Q:Sl×Msg×Bool×Bool->Hp->Prop} (hq:∀ sl c' r' h',On h' (c'::r'::l)->ZB6 p (Zo s x).1 c'->Row ZQ r' sl (Zo s x).2.1->Q (sl,(Zo s x).2.2) h'):
 ZA TP 184 [Value.pointer p,ZQ.enc x] (ZW [cSl,ZAn,cB,cB]) h Q:=by
 obtain ⟨b,kp,ck,y,rfl,oc,wk,hx⟩:=w;refine c184 ?_;unfold F184;dsimp only [ZR];have os:=o.split oc;have oe:On h (ob b (ZBJ s.beat s.up s.want kp y.1 y.2.1 y.2.2) 276::ck::Hp.emp::l):=On.pick (l:=Hp.emp::ob b (ZBJ s.beat s.up s.want kp y.1 y.2.1 y.2.2) 276::ck::l) os.emp [1,2,0] 3 (by decide) (by decide);refine ZT rfl ?_;refine ZN (λz h'=>∃ (s1:SS) (d:Hp) (y:Nat×Nat×Nat),On h' (ob b (ZBJ s1.beat s1.up s1.want kp y.1 y.2.1 y.2.2) 276::ck::d::l)/\(s1.up=true->y=ZNh s1)/\s1.all=s.all/\Row ZQ d z.1 (Zo s x).2.1/\z.2=(Zo s x).2.2/\Fin s1 (Zo s x).2.1 (Zo s x).1) ?_ λJ hJ=>?_
 ·rintro ⟨z1,z2⟩ h1 ⟨s1,d,y,o1,hy,hall,r1,hz,f1,f2,f3,f4,f5⟩;dsimp only at hz r1;subst hz;rw [f1,f2,f3] at o1;have wk':ZCX kp (Zo s x).1.all ck:=by rw [←f4,hall]; exact wk
  refine ZN (λ_ h'=>∃ c',On h' (c'::d::l)/\ZB6 (some ⟨b,0,none⟩) (Zo s x).1 c') ?_ λJ2 hJ2=>?_
  .rintro _ h2 ⟨c',o2,w2⟩;exact hq z1 c' d h2 o2 w2 r1
  ·have hrl:=r1.1;refine ZJ (fun hpos=>?_) fun hpos=>?_
   ·refine ZZ (cd:=cI .i64) (i:=5) (x:=(0:Int)) (vs':=ZBJ (Zo s x).1.beat (Zo s x).1.up (Zo s x).1.want kp y.1 0 y.2.2) o1 rfl rfl (by show 5+1≤7; omega) fun h2 o2=>?_
    obtain ⟨c',o3,w3⟩:=ZG3 (s:=(Zo s x).1) (lay:=ZNh) (K:=ZCX) (e:=276) (y.1,0,y.2.2) o2 wk' (fun h=>by
         obtain ⟨g1,g2,g3⟩:=f5 h;have e:=hy (by rw [f2]; exact h);rw [e];rw [if_neg (by dsimp only at hpos; omega)] at g3;unfold ZNh;rw [g1,g2,g3])
    exact hJ2 _ _ ⟨c',o3,w3⟩
   ·obtain ⟨c',o3,w3⟩:=ZG3 (s:=(Zo s x).1) (lay:=ZNh) (K:=ZCX) (e:=276) y o1 wk' (fun h=>by
         obtain ⟨g1,g2,g3⟩:=f5 h;have e:=hy (by rw [f2]; exact h);rw [e];rw [if_pos (by dsimp only at hpos; omega)] at g3;unfold ZNh;rw [g1,g2,g3])
    exact hJ2 _ _ ⟨c',o3,w3⟩
 ·refine ZI (x:=s.up) os 0 rfl rfl ?_;refine ZD (fun e=>?_) fun e=>?_
  ·have e:s.up=false:=by simpa using e
   refine ZN (λt h'=>h'=h/\t=decide (x.Seq=0/\x.Msg_Kind=1)) ?_ λJ3 hJ3=>?_
   ·rintro t h' ⟨rfl,rfl⟩;refine ZJ (fun hk=>?_) fun hk=>?_
    .have et:Zo s x=((ZOQ s x.Msg_F_0).1,(ZOQ s x.Msg_F_0).2,ZJZ,false,s.up&&!(ZOQ s x.Msg_F_0).1.up):=by unfold Zo; rw [if_pos hk]
     refine ⟨by decide,by decide,?_⟩;refine ZSI (a4:=y.1) (a5:=y.2.1) (a6:=y.2.2) os wk hl hs (λhg h2 o2=>?_) λhg sl d h2 o2 r2=>?_
     .have el:ZOQ s x.Msg_F_0=({s with up:=false},[]):=by unfold ZOQ; rw [if_pos hg]
      rw [el,e] at et;refine hJ _ _ ⟨{s with up:=false},Hp.emp,y,o2.emp.pick [1,2,0] 3 (by decide) (by decide),λh=>(by cases h),rfl,?_,?_,?_⟩
      .rw [et]; exact Row.nil _
      .rw [et]; rfl
      .rw [et]; exact ⟨rfl,rfl,rfl,rfl,λh=>by cases h⟩
     .have el:ZOQ s x.Msg_F_0=({s with up:=true,asked:=0,sent:=0,heard:=0},ZFE 1 s.want::s.all.drop (x.Msg_F_0-1).toNat):=by unfold ZOQ; rw [if_neg hg]
      rw [el,e] at et;refine hJ _ _ ⟨{s with up:=true,asked:=0,sent:=y.2.1,heard:=0},d,(0,y.2.1,0),o2,λh=>rfl,rfl,?_,?_,?_⟩
      .rw [et]; exact r2
      .rw [et]; rfl
      .rw [et]; exact ⟨rfl,rfl,rfl,rfl,λ_=>⟨rfl,rfl,by simp⟩⟩
    .have et:Zo s x=(s,[],ZJZ,false,false):=by unfold Zo; rw [if_neg hk,if_pos e]
     refine hJ _ _ ⟨s,Hp.emp,y,oe,hx,rfl,?_,?_,?_⟩
     .rw [et]; exact Row.nil _
     .rw [et]; rfl
     .rw [et]; exact ⟨rfl,rfl,rfl,rfl,λh=>by rw [e] at h; cases h⟩
   .refine ZD (λh0=>hJ3 _ _ ⟨rfl,?_⟩) λh0=>hJ3 _ _ ⟨rfl,?_⟩
    .have h0:x.Seq=0:=by simpa using h0
     rw [Bool.eq_iff_iff]; simp [h0]
    .have h0:x.Seq≠0:=by simpa using h0
     exact (decide_eq_false (λh=>h0 h.1)).symm
  ·have e:s.up=true:=by simpa using e
   have hy:=hx e;subst hy;have os:On h (ob b (cellsOf s kp) 276::ck::l):=os;refine ZZ (cd:=cI .i64) (i:=6) (x:=(0:Int)) (vs':=cellsOf {s with heard:=0} kp) os rfl rfl (by show 6+1<=7; omega) λh6 o6=>?_;by_cases h0:x.Seq=0
   ·obtain ⟨q1,q2,q3⟩:=ZVQ s x e h0;refine c266 ?_;unfold F266;refine Zh (by simpa using h0) ?_;refine ZOc (m:=ZDZ x) (s:={s with heard:=0}) o6 wk hl hs fun sl d h7 o7 r7=>?_
    have q4:(ZQD {s with heard:=0} x.Msg_Kind x.Msg_F_0).1.all=s.all:=by
         unfold ZQD;split
         .split<;>rfl
         .split
          .rfl
          .split
           .split<;>rfl
           .split<;>rfl
    refine ZI (x:=(ZQD {s with heard:=0} x.Msg_Kind x.Msg_F_0).1.up) o7 0 rfl rfl ?_;refine hJ _ _ ⟨(ZQD {s with heard:=0} x.Msg_Kind x.Msg_F_0).1,d,ZNh _,o7,λ_=>rfl,q4,?_,?_,?_⟩
    .rw [<-q1]; exact r7
    .rw [q2]; rfl
    .rw [<-q1]; exact q3
   .have et:Zo s x=((ZFv {s with heard:=0} x).1,(ZFv {s with heard:=0} x).2.1,(ZFv {s with heard:=0} x).2.2.1,(ZFv {s with heard:=0} x).2.2.2,false):=by unfold Zo; rw [if_neg (λh=>h0 h.1),if_neg (by rw [e]; simp),if_neg h0]
    obtain ⟨v1,v2,v3,v4,v5⟩:=ZQi {s with heard:=0} x;have o6':On h6 (ob b (ZBJ s.beat true s.want kp s.asked s.sent (0:Nat)) 276::ck::l):=by rw [<-e]; exact o6
    refine ZUS (s:={s with heard:=0}) o6' wk e hl hw hs h0 λsl d h7 o7 r7=>?_;refine ZI (x:=true) o7 0 rfl rfl ?_;refine hJ _ _ ⟨{(ZFv {s with heard:=0} x).1 with sent:=s.sent},d,((ZFv {s with heard:=0} x).1.asked,s.sent,0),?_,?_,v3,?_,?_,?_⟩
    .dsimp only;have ee:(ZFv {s with heard:=0} x).1.up=true:=by rw [v2]; exact e
     rw [v1,ee];exact o7
    .intro _;unfold ZNh;rw [show ({(ZFv {s with heard:=0} x).1 with sent:=s.sent}:SS).heard=0 from v4]
    .rw [et]; exact r7
    .rw [et]; rfl
    .rw [et]; exact ⟨rfl,rfl,rfl,rfl,λ_=>⟨rfl,rfl,v5⟩⟩
theorem ZT0 (a b:Nat):(a:Int).tmod (b:Int)=((a % b:Nat):Int):=rfl
theorem ZVS (a b:Nat):(a:Int).tdiv (b:Int)=((a / b:Nat):Int):=rfl
theorem ZVp {a b k:Nat} (hb:0<b):(a % b=0/\a / b=k)↔a=k*b:=by
 constructor
 .rintro ⟨h1,h2⟩;have:=Nat.div_add_mod a b;rw [h1,h2,Nat.add_zero,Nat.mul_comm] at this;exact this.symm
 .rintro rfl;exact ⟨Nat.mul_mod_left _ _,Nat.mul_div_cancel _ hb⟩
theorem ZS9 {p:Option Addr} {s:SS} {c h:Hp} {l:List Hp} (o:On h (c::l)) (w:ZB6 p s c) (hb:1≤s.beat∧s.beat≤1000) (hs1:s.sent≤1000000) (hs2:s.heard≤1000000)
 {Q:Sl×Bool->Hp->Prop} (hq:∀ sl c' r' h',On h' (c'::r'::l)->ZB6 p (ZCb s).1 c'->Row ZQ r' sl (ZCb s).2.1->Q (sl,(ZCb s).2.2) h'):
 ZA TP 182 [Value.pointer p] (ZW [cSl,cB]) h Q:=by
 have w':=w;obtain ⟨b,kp,ck,y,rfl,oc,wk,hx⟩:=w;refine c182 ?_;unfold F182;dsimp only [ZR];have os:=o.split oc;unfold ZCb at hq;refine ZN (λt h'=>h'=h/\t=!s.up) ?_ λJ hJ=>ZT rfl (ZI (x:=s.up) os 0 rfl rfl (hJ _ _ ⟨rfl,rfl⟩));rintro t h' ⟨rfl,rfl⟩;refine ZD (λe=>?_) λe=>?_
 .have e:s.up=false:=by simpa using e
  rw [if_pos e] at hq;exact hq _ c Hp.emp h' (o.emp.swap) w' (Row.nil _)
 ·have e:s.up=true:=by simpa using e
  rw [if_neg (by rw [e]; simp)] at hq;have hy:=hx e;subst hy;have os:On h' (ob b (cellsOf s kp) 276::ck::l):=os;refine ZI (cd:=cI .i64) (x:=(s.sent:Int)) os 0 rfl rfl ?_;rw [ZAQ (n:=s.sent) (by omega)];refine ZZ (cd:=cI .i64) (i:=5) (x:=((s.sent+1:Nat):Int)) (vs':=cellsOf {s with sent:=s.sent+1} kp) os rfl rfl (by show 5+1<=7; omega) λh2 o2=>?_;refine ZI (cd:=cI .i64) (x:=(s.heard:Int)) o2 0 rfl rfl ?_;rw [ZAQ (n:=s.heard) (by omega)];refine ZZ (cd:=cI .i64) (i:=6) (x:=((s.heard+1:Nat):Int)) (vs':=cellsOf {s with sent:=s.sent+1,heard:=s.heard+1} kp) o2 rfl rfl (by show 6+1<=7; omega) λh3 o3=>?_;refine ZI (cd:=cI .i64) (x:=((s.heard+1:Nat):Int)) o3 0 rfl rfl ?_;refine ZI (cd:=cI .i64) (x:=(s.beat:Int)) o3 0 rfl rfl ?_;refine ⟨by omega,?_⟩;have ediv:ZXK .i64 ((s.heard+1:Nat):Int) (s.beat:Int)=(((s.heard+1) / s.beat:Nat):Int):=by have hle:=Nat.div_le_self (s.heard+1) s.beat;unfold ZXK;rw [ZVS];generalize (s.heard+1) / s.beat=k at hle ⊢;exact w64 (by omega) (by omega)
  have d2:=ZVp (a:=s.heard+1) (b:=s.beat) (k:=2) (by omega);have d3:=ZVp (a:=s.heard+1) (b:=s.beat) (k:=3) (by omega);rw [ZT0];refine ZN (λs1 h4=>s.heard+1≠3*s.beat/\∃ d,On h4 (ob b (cellsOf {s with sent:=s.sent+1,heard:=s.heard+1} kp) 276::ck::d::l)/\Row ZQ d s1 (if s.heard+1=2*s.beat then [ZFE 3 0] else if s.beat<=s.sent+1 then [ZFE 2 0] else [])) ?_ λJ2 hJ2=>?_
  ·rintro s1 h4 ⟨hne,d,o4,r4⟩;rw [if_neg hne] at hq;have hrl:=r4.1;refine ZN (fun _ h'=>∃ n,On h' (ob b (cellsOf {s with sent:=n,heard:=s.heard+1} kp) 276::ck::d::l)∧n=if s1.len=0 then s.sent+1 else 0) ?_ fun J1 hJ1=>?_
   ·rintro _ h5 ⟨n,o5,hn⟩;obtain ⟨c',o6,w6⟩:=ZG3 (s:={s with sent:=n,heard:=s.heard+1}) (lay:=ZNh) (K:=ZCX) (e:=276) (s.asked,n,s.heard+1) o5 wk (fun h=>rfl);by_cases a2:s.heard+1=2*s.beat
    .rw [if_pos a2] at hq r4 hrl;have hn:n=0:=by rw [hn,if_neg (by rw [hrl]; simp)]
     subst hn;exact hq s1 c' d h5 o6 w6 r4
    .rw [if_neg a2] at hq r4 hrl;by_cases a3:s.beat<=s.sent+1
     .rw [if_pos a3] at hq r4 hrl;have hn:n=0:=by rw [hn,if_neg (by rw [hrl]; simp)]
      subst hn;exact hq s1 c' d h5 o6 w6 r4
     .rw [if_neg a3] at hq r4 hrl;have hn:n=s.sent+1:=by rw [hn,if_pos (by rw [hrl]; rfl)]
      subst hn;exact hq s1 c' d h5 o6 w6 r4
   .refine ZJ (λhpos=>?_) λhpos=>hJ1 _ _ ⟨s.sent+1,o4,by rw [if_pos (by omega)]⟩;refine ZZ (cd:=cI .i64) (i:=5) (x:=(0:Int)) (vs':=cellsOf {s with sent:=0,heard:=s.heard+1} kp) o4 rfl rfl (by show 5+1<=7; omega) λh5 o5=>?_;exact hJ1 _ _ ⟨0,o5,by rw [if_neg (by omega)]⟩
  ·refine ZN (fun t h'=>h'=h3∧t=decide (s.heard+1=3*s.beat)) ?_ fun J4 hJ4=>?_
   ·rintro t h7 ⟨rfl,rfl⟩;refine ZJ (fun a3=>?_) fun a3=>?_
    .rw [if_pos a3] at hq;refine ZZ (cd:=cB) (i:=1) (x:=false) (vs':=cellsOf {s with up:=false,sent:=s.sent+1,heard:=s.heard+1} kp) o3 rfl rfl (by show 1+1<=7; omega) λh8 o8=>?_;refine ZH1 ?_;refine ZFL (x:=ZFE 5 0) o8 λk6 d6 h6 o6 r6 w6=>?_;obtain ⟨c',o9,w9⟩:=ZG3 (s:={s with up:=false,sent:=s.sent+1,heard:=s.heard+1}) (lay:=ZNh) (K:=ZCX) (e:=276) (s.asked,s.sent+1,s.heard+1) (o6.pick [1,2,0] 3 (by decide) (by decide)) wk (λh=>by cases h);exact hq _ c' d6 h6 o9 w9 r6
    ·refine ZN (fun t h'=>h'=h7∧t=decide (s.heard+1=2*s.beat)) ?_ fun J3 hJ3=>?_
     .rintro t h11 ⟨rfl,rfl⟩;refine ZJ (λa2=>?_) λa2=>?_
      .refine ZH1 ?_;refine ZFL (x:=ZFE 3 0) o3 λk6 d6 h6 o6 r6 w6=>?_;exact hJ2 _ _ ⟨a3,d6,o6.pick [1,2,0] 3 (by decide) (by decide),by rw [if_pos a2]; exact r6⟩
      .refine ZI (cd:=cI .i64) (x:=((s.sent+1:Nat):Int)) o3 0 rfl rfl ?_;refine ZI (cd:=cI .i64) (x:=(s.beat:Int)) o3 0 rfl rfl ?_;refine ZJ (λhge=>?_) λhge=>?_
       .refine ZH1 ?_;refine ZFL (x:=ZFE 2 0) o3 λk6 d6 h6 o6 r6 w6=>?_;exact hJ2 _ _ ⟨a3,d6,o6.pick [1,2,0] 3 (by decide) (by decide),by rw [if_neg a2,if_pos (by omega)]; exact r6⟩
       .exact hJ2 _ _ ⟨a3,Hp.emp,o3.emp.pick [1,2,0] 3 (by decide) (by decide),by rw [if_neg a2,if_neg (by omega)]; exact Row.nil _⟩
     .refine ZD (λhm=>?_) λhm=>hJ3 _ _ ⟨rfl,?_⟩
      .refine ZI (cd:=cI .i64) (x:=((s.heard+1:Nat):Int)) o3 0 rfl rfl ?_;refine ZI (cd:=cI .i64) (x:=(s.beat:Int)) o3 0 rfl rfl ?_;refine ⟨by omega,hJ3 _ _ ⟨rfl,?_⟩⟩;rw [ediv,Bool.eq_iff_iff,decide_eq_true_eq,beq_iff_eq,<-d2];have hm:(s.heard+1) % s.beat=0:=by have:=eq_of_beq hm;omega
       omega
      .refine (decide_eq_false (λh=>?_)).symm;have h:=(d2.2 h).1;rw [h] at hm;cases hm
   .refine ZD (λhm=>?_) λhm=>hJ4 _ _ ⟨rfl,?_⟩
    .refine ZI (cd:=cI .i64) (x:=((s.heard+1:Nat):Int)) o3 0 rfl rfl ?_;refine ZI (cd:=cI .i64) (x:=(s.beat:Int)) o3 0 rfl rfl ?_;refine ⟨by omega,hJ4 _ _ ⟨rfl,?_⟩⟩;rw [ediv,Bool.eq_iff_iff,decide_eq_true_eq,beq_iff_eq,<-d3];have hm:(s.heard+1) % s.beat=0:=by have:=eq_of_beq hm;omega
     omega
    .refine (decide_eq_false (λh=>?_)).symm;have h:=(d3.2 h).1;rw [h] at hm;cases hm
theorem ZTB {p:Option Addr} {s:SS} {m:Msg} {c h:Hp} {l:List Hp} (o:On h (c::l)) (w:ZB6 p s c) (hl:s.all.length≤1000000000)
 {Q:ZP×Bool->Hp->Prop} (hq:∀ c' h',On h' (c'::l)->ZB6 p (ZAm s m).1 c'->Q (ZAm s m).2 h'):
 ZA TP 267 [Value.pointer p,ZAn.enc m] (ZW [ZQ,cB]) h Q:=by
 have w':=w;obtain ⟨b,kp,ck,y,rfl,oc,wk,hx⟩:=w;refine c267 ?_;unfold F267;dsimp only [ZR];unfold ZAm at hq;refine ZN (λt h'=>On h' (c::l)/\t=decide (isV m=false\/ZZy m.Kind=true)) ?_ λJ hJ=>?_
 ·rintro t h' ⟨o,rfl⟩;refine ZJ (fun e=>?_) fun e=>?_
  .rw [if_pos e] at hq;exact hq c h' o w'
  ·rw [if_neg e] at hq;have os:=o.split oc;refine ZN (fun _ h'=>∃ y:Nat×Nat×Nat,On h' (ob b (ZBJ s.beat s.up s.want kp y.1 y.2.1 y.2.2) 276::ck::l)∧(s.up=true→y=(s.asked,0,s.heard))∧(s.up=false→True)) ?_ fun J1 hJ1=>?_
   ·rintro _ h2 ⟨y,o2,hy,_⟩;refine ZI (x:=kp) o2 0 rfl rfl ?_;refine ZI (x:=s.up) o2 0 rfl rfl ?_;refine ZWi o2.swap wk hl fun ck' h3 o3 wk'=>?_
    obtain ⟨c',o4,w4⟩:=ZG3 (s:={s with all:=s.all++[mkF (s.all.length+1:Nat) m],sent:=if s.up=true then 0 else s.sent}) (lay:=ZNh) (K:=ZCX) (e:=276) y o3.swap wk' (fun h=>by
         rw [hy h];have h:s.up=true:=h;unfold ZNh;dsimp only;rw [if_pos h])
    refine ⟨⟨Hp.sub_rds (o3.get (i:=1) rfl) (ZCS rfl),trivial⟩,?_⟩;exact hq c' h3 o4 w4
   .refine ZI (x:=s.up) os 0 rfl rfl ?_;refine ZD (λe1=>?_) λe1=>hJ1 _ _ ⟨y,os,λh=>(by rw [e1] at h; cases h),λ_=>trivial⟩;have hy:=hx e1;subst hy;have os:On h' (ob b (cellsOf s kp) 276::ck::l):=os;refine ZZ (cd:=cI .i64) (i:=5) (x:=(0:Int)) (vs':=cellsOf {s with sent:=0} kp) os rfl rfl (by show 5+1<=7; omega) λh5 o5=>?_;exact hJ1 _ _ ⟨(s.asked,0,s.heard),o5,λ_=>rfl,λ_=>trivial⟩
 .refine ZT rfl (ZXQ (m:=m) o λh5 o5=>?_);refine ZD (λe=>hJ _ _ ⟨o5,?_⟩) λe=>ZZ8 (hJ _ _ ⟨o5,?_⟩)
  .exact (decide_eq_true (.inl (by simpa using e))).symm
  .have e:isV m=true:=by simpa using e
   rw [Bool.eq_iff_iff,decide_eq_true_eq,e];simp
theorem ZMC (s:SS) (x:ZP):(Zo s x).1.beat=s.beat∧(Zo s x).1.all=s.all∧(Zo s x).1.want≤s.want+1∧(Zo s x).1.sent≤s.sent∧(Zo s x).1.heard≤s.heard∧(Zo s x).2.1.length≤s.all.length+1:=by
 unfold Zo;split
 .unfold ZOQ;split
  .exact ⟨rfl,rfl,by simp,by simp,by simp,by simp⟩
  .exact ⟨rfl,rfl,by simp,by simp,by simp,by simp⟩
 ·split
  .exact ⟨rfl,rfl,by simp,by simp,by simp,by simp⟩
  ·split
   ·unfold ZXY;split
    .exact ⟨rfl,rfl,by simp,by simp,by simp,by simp⟩
    .split
     .split
      .exact ⟨rfl,rfl,by simp,by simp,by simp,by simp⟩
      .refine ⟨rfl,rfl,by simp,?_,by simp,by simp; omega⟩;dsimp only;split<;>omega
     .split
      .exact ⟨rfl,rfl,by simp,by simp,by simp,by simp⟩
      .exact ⟨rfl,rfl,by simp,by simp,by simp,by simp⟩
   ·unfold ZFv;split
    .exact ⟨rfl,rfl,by simp,by simp,by simp,by simp⟩
    .split
     .exact ⟨rfl,rfl,by simp,by simp,by simp,by simp⟩
     .split
      .exact ⟨rfl,rfl,by simp,by simp,by simp,by simp⟩
      .exact ⟨rfl,rfl,by simp,by simp,by simp,by simp⟩
theorem ZRJ (s:SS):(ZCb s).1.beat=s.beat∧(ZCb s).1.all=s.all∧(ZCb s).1.want=s.want∧(ZCb s).1.sent≤s.sent+1∧(ZCb s).1.heard≤s.heard+1∧(ZCb s).2.1.length≤1:=by
 unfold ZCb;split
 .exact ⟨rfl,rfl,rfl,by simp,by simp,by simp⟩
 ·split
  .exact ⟨rfl,rfl,rfl,by simp,by simp,by simp⟩
  .split
   .exact ⟨rfl,rfl,rfl,by simp,by simp,by simp⟩
   .split
    .exact ⟨rfl,rfl,rfl,by simp,by simp,by simp⟩
    .exact ⟨rfl,rfl,rfl,by simp,by simp,by simp⟩
def ZBn (st:SS×List (List Int)×Bool) (f:ZP):SS×List (List Int)×Bool:=
 if st.2.1.length<256 then (st.1,st.2.1++[ZBA (ZAf f)],st.2.2) else ((ZMF st.1).1,st.2.1,st.2.2||(ZMF st.1).2)
def ZAz (st:SS×List (List Int)×Bool) (fs:List ZP):SS×List (List Int)×Bool:=fs.foldl ZBn st
def ZAv (st:SS×List (List Int)×List ZP×Bool) (b:List Int):SS×List (List Int)×List ZP×Bool:=
 match ZEM b with
 | none=>st
 | some x=>
   ((ZAz ((Zo st.1 x).1,st.2.1,false) (Zo st.1 x).2.1).1,(ZAz ((Zo st.1 x).1,st.2.1,false) (Zo st.1 x).2.1).2.1,
     if (Zo st.1 x).2.2.2.1=true then st.2.2.1++[mkF x.Seq (Zo st.1 x).2.2.1] else st.2.2.1,
     st.2.2.2||((Zo st.1 x).2.2.2.2||(ZAz ((Zo st.1 x).1,st.2.1,false) (Zo st.1 x).2.1).2.2))
def Zq (pf ps pb:Option Addr):List Value:=[.pointer pf,.pointer ps,.pointer pb]
def ZDL (p:Option Addr) (held:List Int) (lost:Nat) (s:SS) (out:List (List Int)) (c:Hp):Prop:=
 ∃ (b:Nat) (pf ps pb:Option Addr) (cf cs cb:Hp),p=some ⟨b,0,none⟩/\On c [ob b (Zq pf ps pb) 223,cf,cs,cb]/\ZGb pf held lost cf 278/\ZB6 ps s cs/\ZFM pb 256 out false cb
theorem ZUz {n:Int} {h:Hp} {l:List Hp} (o:On h l) {Q:Option Addr->Hp->Prop} (h0:n<1\/1000<n->Q none h) (h1:1<=n->n<=1000->∀ p c h',On h' (c::l)->ZDL p [] 0 (ZW7 n.toNat) [] c->Q p h'):ZA TP 60 [Value.int .i64 n] cP h Q:=by refine c60 ?_;unfold F60;refine ZVO o (λhn=>Zh rfl (h0 hn)) λa1 a2 ps cs h2 o2 w2=>?_;obtain ⟨ks,rfl⟩:=ZUL w2;refine ZT rfl (ZSS o2 λpf cf h3 o3 w3=>?_);refine ZZh o3 (λh=>by omega) λpb cb h4 _ _ o4 w4=>?_;refine ZH o4 λk1 h5 o5=>?_;obtain ⟨o6,o7⟩:=On.joined (cs:=[ob k1 (Zq pf (some ⟨ks,0,none⟩) pb) 223,cf,cs,cb]) (l:=l) (On.pick (l:=ob k1 (Zq pf (some ⟨ks,0,none⟩) pb) 223::cb::cf::cs::l) o5 [0,2,3,1] 4 (by decide) (by decide));exact h1 a1 a2 _ _ h5 o6 ⟨k1,pf,_,pb,cf,cs,cb,rfl,o7,w3,w2,w4⟩
theorem ZJa {p:Option Addr} {held:List Int} {lost:Nat} {s:SS} {out:List (List Int)} {c h:Hp} (hc:c.sub h) (w:ZDL p held lost s out c) {Q:Bool->Hp->Prop} (hq:Q s.up h):ZA TP 66 [Value.pointer p] cB h Q:=by obtain ⟨b,pf,ps,pb,cf,cs,cb,rfl,oc,wf,ws,wb⟩:=w;refine c66 ?_;unfold F66;dsimp only [ZR];exact Zh rfl ⟨ps,Hp.sub_rds (Hp.sub_trans (oc.get (i:=0) rfl) hc) (ZCS rfl),ZWQ (Hp.sub_trans (oc.get (i:=2) rfl) hc) ws hq⟩
theorem ZUU {p:Option Addr} {held:List Int} {lost:Nat} {s:SS} {out:List (List Int)} {c h:Hp} {l:List Hp} (o:On h (c::l)) (w:ZDL p held lost s out c) {Q:Bool->Hp->Prop} (hq:∀ c' h',On h' (c'::l)->ZDL p held lost (ZMF s).1 out c'->Q (ZMF s).2 h'):ZA TP 64 [Value.pointer p] cB h Q:=by obtain ⟨b,pf,ps,pb,cf,cs,cb,rfl,oc,wf,ws,wb⟩:=w;refine c64 ?_;unfold F64;dsimp only [ZR];have os:=o.split oc;refine Zh rfl ?_;refine ZI (x:=ps) os 0 rfl rfl ?_;have os':On h (cs::ob b (Zq pf ps pb) 223::cf::cb::l):=On.pick (l:=ob b (Zq pf ps pb) 223::cf::cs::cb::l) os [2,0,1,3] 4 (by decide) (by decide);refine ZNv os' ws λcs' h2 o2 w2=>?_;obtain ⟨o6,o7⟩:=On.joined (cs:=[ob b (Zq pf ps pb) 223,cf,cs',cb]) (l:=l) (o2.pick [1,2,0,3] 4 (by decide) (by decide));exact hq _ h2 o6 ⟨b,pf,_,pb,cf,cs',cb,rfl,o7,wf,w2,wb⟩
theorem ZG1 {b:Nat} {pf ps pb:Option Addr} {cf cs cb g h:Hp} {l:List Hp} {s:SS} {out:List (List Int)} {p1:Sl} {fs:List ZP} (o:On h (ob b (Zq pf ps pb) 223::cf::cs::cb::l)) (ws:ZB6 ps s cs) (wb:ZFM pb 256 out false cb) (hg:g∈l) (r:Row ZQ g p1 fs) (hw:∀ f∈fs,wfF f) (hn:fs.length≤1000000001)
 {Q:Bool->Hp->Prop} (hq:∀ cs' cb' h',On h' (ob b (Zq pf ps pb) 223::cf::cs'::cb'::l)->ZB6 ps (ZAz (s,out,false) fs).1 cs'->ZFM pb 256 (ZAz (s,out,false) fs).2.1 false cb'->Q (!(ZAz (s,out,false) fs).2.2) h'):
 ZA TP 183 [Value.pointer (some ⟨b,0,none⟩),Value.slice p1.a p1.len p1.cap] cB h Q:=by
 refine c183 ?_;unfold F183;dsimp only [ZR];have hl:=r.1;refine Zb (λz h'=>∃ (i:Nat) (cs cb:Hp),z=((ZAz (s,out,false) (fs.take i)).2.2,(i:Int))/\i<=fs.length/\On h' (ob b (Zq pf ps pb) 223::cf::cs::cb::l)/\ZB6 ps (ZAz (s,out,false) (fs.take i)).1 cs/\ZFM pb 256 (ZAz (s,out,false) (fs.take i)).2.1 false cb) (λz=>fs.length-z.2.toNat)
  ⟨0,cs,cb,rfl,Nat.zero_le _,o,ws,wb⟩ ?_
 rintro J z h1 again ⟨i,cs,cb,rfl,hle,o1,ws,wb⟩
 dsimp only;refine ZJ (λhlt=>?_) λhge=>?_
 ·have hi:i<fs.length:=by omega
  have a0:fs[i]?=some fs[i]:=List.getElem?_eq_getElem hi;have hwf:=hw _ (List.mem_of_getElem? a0);generalize fs[i]=f at a0 hwf;have estep:ZAz (s,out,false) (fs.take (i+1))=ZBn (ZAz (s,out,false) (fs.take i)) f:=Z7 ZBn (s,out,false) fs a0;have ei:IntKind.i64.wrap ((i:Int)+1)=((i+1:Nat):Int):=ZAQ (by omega);rw [ei];generalize ZAz (s,out,false) (fs.take i)=st at ws wb estep;obtain ⟨s1,out1,bad1⟩:=st;dsimp only at ws wb ⊢;refine ZN (λt h'=>∃ (cs cb:Hp),On h' (ob b (Zq pf ps pb) 223::cf::cs::cb::l)/\ZB6 ps (ZBn (s1,out1,bad1) f).1 cs/\ZFM pb 256 (ZBn (s1,out1,bad1) f).2.1 false cb/\t=(ZBn (s1,out1,bad1) f).2.2) ?_ λJ2 hJ2=>?_
  .rintro t h2 ⟨cs,cb,o2,ws,wb,rfl⟩;exact again _ _ ⟨i+1,cs,cb,by rw [estep],by omega,o2,by rw [estep]; exact ws,by rw [estep]; exact wb⟩ (by dsimp only; omega)
  .refine ZL r (Int.natCast_nonneg i) (by omega) λa ha=>ZO r (o1.mem (by simp [hg])) rfl ha (i:=i) a0 (by simp) ?_;refine ZQ4 (x:=f) o1 hwf λs3 d3 h3 o3 w3=>?_;have hbl:=ZCe hwf;refine ZWF o3 (g:=d3) (by simp) w3.row (ZDl f) (by omega) (λh=>by omega) λ_ s4 d4 h4 o4 w4=>?_;refine ZN (λt h'=>∃ cb,On h' (ob b (Zq pf ps pb) 223::cf::cs::cb::l)/\ZFM pb 256 (if out1.length<256 then out1++[ZBA (ZAf f)] else out1) false cb/\t=!decide (out1.length<256)) ?_ λJ3 hJ3=>?_
   .rintro t h5 ⟨cb,o5,wb5,rfl⟩;by_cases h256:out1.length<256
    .rw [if_pos h256] at wb5;have eg:ZBn (s1,out1,bad1) f=(s1,out1++[ZBA (ZAf f)],bad1):=if_pos h256;refine ZT (by rw [decide_eq_true h256]; rfl) (hJ2 _ _ ⟨cs,cb,o5,by rw [eg]; exact ws,by rw [eg]; exact wb5,by rw [eg]⟩)
    .rw [if_neg h256] at wb5;have eg:ZBn (s1,out1,bad1) f=((ZMF s1).1,out1,bad1||(ZMF s1).2):=if_neg h256;refine Zh (by rw [decide_eq_false h256]; rfl) ?_;refine ZI (x:=ps) o5 0 rfl rfl ?_;refine ZNv (o5.pick [2,0,1,3] 4 (by decide) (by decide)) ws λcs6 h6 o6 w6=>?_;have o6':On h6 (ob b (Zq pf ps pb) 223::cf::cs6::cb::l):=o6.pick [1,2,0,3] 4 (by decide) (by decide);refine ZD (λe=>hJ2 _ _ ⟨cs6,cb,o6',by rw [eg]; exact w6,by rw [eg]; exact wb5,by rw [eg,e,Bool.or_true]⟩) λe=>hJ2 _ _ ⟨cs6,cb,o6',by rw [eg]; exact w6,by rw [eg]; exact wb5,by rw [eg,e,Bool.or_false]⟩
   .refine ZT rfl ?_;refine ZI (x:=pb) o4 2 rfl rfl ?_;have o4':On h4 (cb::d4::ob b (Zq pf ps pb) 223::cf::cs::l):=o4.pick [5,0,2,3,4] 6 (by decide) (by decide);refine ZZq (g:=d4) o4' wb (i:=1) rfl w4.row (by rw [ZEa]; omega) λcb5 h5 o5 w5=>?_;refine hJ3 _ _ ⟨cb5,o5.pick [2,3,4,0] 5 (by decide) (by decide),?_,by simp⟩;by_cases h256:out1.length<256
    .rw [if_pos h256];simpa [h256] using w5
    .rw [if_neg h256];simpa [h256] using w5
 .have:i=fs.length:=by omega
  subst this;rw [List.take_length] at ws wb ⊢;exact hq cs cb h1 o1 ws wb
theorem ZQP {ns:List Int} (h:∀ x∈ns,I64 x) (i:Nat):I64 (ns.getD i 0):=by
 rw [List.getD_eq_getElem?_getD];cases hx:ns[i]? with
 | none=>show I64 0; unfold I64; omega
 | some x=>exact h x (List.mem_of_getElem? hx)
theorem ZNa {bs:List Int} {x:ZP} (hb:Zz bs) (h:ZEM bs=some x):wfF x:=by
 cases hf:ZAO bs with
 | none=>rw [ZQO hf] at h; cases h
 | some p=>
   obtain ⟨s,k⟩:=p;have i1:=(ZCA hb hf).1;cases hf2:ZAO (bs.drop k) with
   | none=>rw [ZSp hf hf2] at h; cases h
   | some q=>
     obtain ⟨t,k2⟩:=q;have i2:=(ZCA (hb.drop k) hf2).1;rw [ZMZ hf hf2] at h;by_cases hc:s<0\/Z0 t<0
     .rw [if_pos hc] at h; cases h
     .rw [if_neg hc,Option.map_eq_some_iff] at h;obtain ⟨ns,hns,rfl⟩:=h;unfold ZJ8 at hns;rw [if_neg (by omega)] at hns;have hall:=(ZJK _ _ _ ((hb.drop k).drop k2) hns).2.2;intro n hn;have hn:n∈s::t::[ns.getD 0 0,ns.getD 1 0,ns.getD 2 0,ns.getD 3 0,ns.getD 4 0,ns.getD 5 0]:=hn;simp only [List.mem_cons,List.not_mem_nil,or_false] at hn;rcases hn with rfl|rfl|rfl|rfl|rfl|rfl|rfl|rfl
      .exact i1
      .exact i2
      all_goals exact ZQP hall _
theorem ZEx {k v:Int} (h1:I64 k) (h2:I64 v):wfF (ZFE k v):=by
 intro n hn;have hn:n∈[0,k,v,0,0,0,0,0]:=hn;simp only [List.mem_cons,List.not_mem_nil,or_false] at hn;rcases hn with rfl|rfl|rfl|rfl|rfl|rfl|rfl|rfl
 .unfold I64; omega
 .exact h1
 .exact h2
 all_goals (unfold I64; omega)
theorem ZRD {s:SS} {x:ZP} (hall:∀ f∈s.all,wfF f) (hw:s.want≤1000000):∀ f∈(Zo s x).2.1,wfF f:=by
 have o1:wfF (ZFE 1 s.want):=ZEx (by unfold I64; omega) (by unfold I64; omega);have o2:wfF (ZFE 2 0):=ZEx (by unfold I64; omega) (by unfold I64; omega);have o4:wfF (ZFE 4 s.want):=ZEx (by unfold I64; omega) (by unfold I64; omega);have o5:wfF (ZFE 5 0):=ZEx (by unfold I64; omega) (by unfold I64; omega);have od:∀ k,∀ f∈s.all.drop k,wfF f:=λk f hf=>hall f (List.mem_of_mem_drop hf);intro f hf;unfold Zo at hf;split at hf
 .unfold ZOQ at hf;split at hf
  .cases hf
  .rcases List.mem_cons.1 hf with rfl|hf
   .exact o1
   .exact od _ f hf
 ·split at hf
  .cases hf
  ·split at hf
   ·unfold ZXY at hf;split at hf
    .rw [List.mem_singleton] at hf; subst hf; exact o2
    .split at hf
     .split at hf
      .rw [List.mem_singleton] at hf; subst hf; exact o5
      .exact od _ f hf
     .split at hf
      .cases hf
      .cases hf
   ·unfold ZFv at hf;split at hf
    .cases hf
    .split at hf
     .cases hf
     .split at hf
      .rw [List.mem_singleton] at hf; subst hf; exact o4
      .cases hf
theorem ZXt (fs:List ZP):∀ st:SS×List (List Int)×Bool,(ZAz st fs).1.all=st.1.all∧(ZAz st fs).1.want=st.1.want∧(ZAz st fs).1.beat=st.1.beat:=by
 induction fs with
 | nil=>exact λst=>⟨rfl,rfl,rfl⟩
 | cons f fs ih=>
   intro st;have h:=ih (ZBn st f);have h1:(ZBn st f).1.all=st.1.all/\(ZBn st f).1.want=st.1.want/\(ZBn st f).1.beat=st.1.beat:=by unfold ZBn;split<;>exact ⟨rfl,rfl,rfl⟩
   show (ZAz (ZBn st f) fs).1.all=_/\(ZAz (ZBn st f) fs).1.want=_/\(ZAz (ZBn st f) fs).1.beat=_;rw [h.1,h.2.1,h.2.2];exact h1
theorem ZR2 (st:SS×List (List Int)×List ZP×Bool) (b:List Int):(ZAv st b).1.all=st.1.all/\(ZAv st b).1.want<=st.1.want+1/\(ZAv st b).2.2.1.length<=st.2.2.1.length+1:=by
 unfold ZAv;split
 .exact ⟨rfl,Nat.le_succ _,Nat.le_succ _⟩
 .rename_i x _;have h1:=ZMC st.1 x;have h2:=ZXt (Zo st.1 x).2.1 ((Zo st.1 x).1,st.2.1,false);refine ⟨by rw [h2.1]; exact h1.2.1,by rw [h2.2.1]; exact h1.2.2.1,?_⟩;dsimp only;split
  .simp
  .exact Nat.le_succ _
theorem ZOr {p:Option Addr} {held:List Int} {lost:Nat} {s:SS} {out:List (List Int)} {c g h:Hp} {l:List Hp} {m:Sl} {bs:List Int} (o:On h (c::l)) (w:ZDL p held lost s out c) (hg:g∈l) (r:Row (cI .u8) g m bs) (hbh:Zz held) (hb:Zz bs) (hl:held.length+bs.length≤100000) (hlost:lost≤1000000)
 (hall:∀ f∈s.all,wfF f) (hal:s.all.length<=1000000000) (hw:s.want<=100000)
 {Q:Sl×Bool->Hp->Prop} (hq:∀ sl d c' h',On h' (c'::d::l)->ZDL p (Zx (held++bs)).2.1 (lost+(Zx (held++bs)).2.2) ((Zx (held++bs)).1.foldl ZAv (s,out,[],false)).1 ((Zx (held++bs)).1.foldl ZAv (s,out,[],false)).2.1 c'->
   Own ZQ d sl ((Zx (held++bs)).1.foldl ZAv (s,out,[],false)).2.2.1->Q (sl,((Zx (held++bs)).1.foldl ZAv (s,out,[],false)).2.2.2) h'):
 ZA TP 108 [Value.pointer p,Value.slice m.a m.len m.cap] (ZW [cSl,cB]) h Q:=by
 obtain ⟨b,pf,ps,pb,cf,cs,cb,rfl,oc,wf,ws,wb⟩:=w;refine c108 ?_;unfold F108;dsimp only [ZR];have os:=o.split oc;refine ZT rfl ?_;refine ZI (x:=pf) os 0 rfl rfl ?_;have os':On h (cf::ob b (Zq pf ps pb) 223::cs::cb::l):=On.pick (l:=ob b (Zq pf ps pb) 223::cf::cs::cb::l) os [1,0,2,3] 4 (by decide) (by decide);refine ZKa os' wf (g:=g) (by simp [hg]) r hbh hb (by omega) hlost λs1 ss1 cf1 r1 h1 o1 wf1 rs1 rr1 hcaps=>?_;have hball:Zz (held++bs):=by
  intro x hx;rcases List.mem_append.1 hx with hx|hx
  .exact hbh x hx
  .exact hb x hx
 have hfb:=(ZGF hball).1;have hfl:=ZJD hball;have hfc:=(ZCy _ _ (Nat.le_refl _) hball).1;rw [List.length_append] at hfl hfc;generalize Zx (held++bs)=fl at wf1 rr1 hfb hfl hfc hq hcaps;obtain ⟨bodies,held',lost'⟩:=fl;dsimp only at wf1 rr1 hfb hfl hfc hq hcaps
 have hbl:∀ x∈bodies,x.length≤100000:=by
  intro x hx
  have:x.length+6≤(bodies.map fun b=>b.length+6).sum:=by
   clear hq wf1 rr1 hfb hfl hfc hcaps;induction bodies with
   | nil=>cases hx
   | cons y ys ih=>
     rw [List.map_cons,List.sum_cons];rcases List.mem_cons.1 hx with rfl|hx
     .omega
     .have:=ih hx; omega
  omega
 have hl1:=rs1.1;have hl2:=rr1.len;have o1':On h1 (ob b (Zq pf ps pb) 223::cf1::cs::cb::Hp.emp::r1::l):=On.pick (l:=Hp.emp::cf1::r1::ob b (Zq pf ps pb) 223::cs::cb::l) o1.emp [3,1,4,5,0,2] 6 (by decide) (by decide);refine Zb (λz h'=>∃ (i:Nat) (cs cb dF:Hp),z.2.2=(i:Int)/\i<=bodies.length/\On h' (ob b (Zq pf ps pb) 223::cf1::cs::cb::dF::r1::l)/\ZB6 ps ((bodies.take i).foldl ZAv (s,out,[],false)).1 cs/\ZFM pb 256 ((bodies.take i).foldl ZAv (s,out,[],false)).2.1 false cb/\
  Own ZQ dF z.1 ((bodies.take i).foldl ZAv (s,out,[],false)).2.2.1/\z.2.1=((bodies.take i).foldl ZAv (s,out,[],false)).2.2.2/\((bodies.take i).foldl ZAv (s,out,[],false)).1.all=s.all/\((bodies.take i).foldl ZAv (s,out,[],false)).1.want<=s.want+i/\((bodies.take i).foldl ZAv (s,out,[],false)).2.2.1.length<=i) (λz=>bodies.length-z.2.2.toNat)
  ⟨0,cs,cb,Hp.emp,rfl,Nat.zero_le _,o1',ws,wb,Own.nil _,rfl,rfl,Nat.le_refl _,Nat.le_refl _⟩ ?_
 rintro J ⟨zf,zs,zi⟩ h2 again ⟨i,cs,cb,dF,hzi,hle,o2,ws,wb,wF,hzs,q1,q2,q3⟩
 dsimp only at hzi wF hzs;subst hzi;dsimp only;refine ZJ (λhlt=>?_) λhge=>?_
 ·have hi:i<bodies.length:=by omega
  have a0:ss1[i]?=some ss1[i]:=List.getElem?_eq_getElem (by omega);obtain ⟨x,hx,rx⟩:=rr1.get i _ a0;have hxb:=hfb x (List.mem_of_getElem? hx);have hxl:=hbl x (List.mem_of_getElem? hx);have estep:(bodies.take (i+1)).foldl ZAv (s,out,[],false)=ZAv ((bodies.take i).foldl ZAv (s,out,[],false)) x:=Z7 ZAv (s,out,[],false) bodies hx;have ei:IntKind.i64.wrap ((i:Int)+1)=((i+1:Nat):Int):=ZAQ (by omega);rw [ei];have hbd:=ZR2 ((bodies.take i).foldl ZAv (s,out,[],false)) x;rw [<-estep] at hbd;subst hzs;generalize (bodies.take i).foldl ZAv (s,out,[],false)=st at ws wb wF q1 q2 q3 estep hbd ⊢;obtain ⟨s2,out2,fr2,bad2⟩:=st;dsimp only at ws wb wF q1 q2 q3 hbd ⊢;refine ZN (λz h'=>∃ (cs cb dF:Hp),On h' (ob b (Zq pf ps pb) 223::cf1::cs::cb::dF::r1::l)/\ZB6 ps (ZAv (s2,out2,fr2,bad2) x).1 cs/\ZFM pb 256 (ZAv (s2,out2,fr2,bad2) x).2.1 false cb/\Own ZQ dF z.1 (ZAv (s2,out2,fr2,bad2) x).2.2.1/\z.2=(ZAv (s2,out2,fr2,bad2) x).2.2.2) ?_ λJ2 hJ2=>?_
  .rintro ⟨z1,z2⟩ h3 ⟨cs,cb,dF,o3,ws,wb,wF,hz⟩;dsimp only at wF hz ⊢;refine again _ _ ⟨i+1,cs,cb,dF,rfl,by omega,o3,by rw [estep]; exact ws,by rw [estep]; exact wb,by rw [estep]; exact wF,by rw [estep]; exact hz,by rw [hbd.1]; exact q1,by omega,by omega⟩ (by dsimp only; omega)
  ·refine ZL rs1 (Int.natCast_nonneg i) (by omega) fun a ha=>ZO rs1 (o2.mem (by simp)) rfl ha (i:=i) a0 (by simp) ?_;obtain ⟨x',hx',hcapx⟩:=hcaps.get i _ a0;rw [hx] at hx';cases hx';generalize ss1[i]=sx at a0 rx hcapx;refine ZNP o2 (g:=r1) (by simp) rx hxb hcapx (by omega) fun h3 o3=>?_;cases hrd:ZEM x with
   | none=>
     rw [ZDU hrd];have eh:ZAv (s2,out2,fr2,bad2) x=(s2,out2,fr2,bad2):=by unfold ZAv; rw [hrd]
     exact Zh rfl (hJ2 _ _ ⟨cs,cb,dF,o3,by rw [eh]; exact ws,by rw [eh]; exact wb,by rw [eh]; exact wF,by rw [eh]⟩)
   | some f=>
     rw [ZGL hrd];have hfw:=ZNa hxb hrd
     have eh:ZAv (s2,out2,fr2,bad2) x=((ZAz ((Zo s2 f).1,out2,false) (Zo s2 f).2.1).1,(ZAz ((Zo s2 f).1,out2,false) (Zo s2 f).2.1).2.1,
          if (Zo s2 f).2.2.2.1=true then fr2++[mkF f.Seq (Zo s2 f).2.2.1] else fr2,
          bad2||((Zo s2 f).2.2.2.2||(ZAz ((Zo s2 f).1,out2,false) (Zo s2 f).2.1).2.2)):=by unfold ZAv; rw [hrd]
     rw [eh] at hJ2;dsimp only at hJ2;refine ZT rfl ?_;refine ZI (x:=ps) o3 0 rfl rfl ?_;have o3':On h3 (cs::ob b (Zq pf ps pb) 223::cf1::cb::dF::r1::l):=o3.pick [2,0,1,3] 4 (by decide) (by decide);refine ZSh (x:=f) o3' ws (by rw [q1]; omega) (by omega) (hfw _ (by simp [fs,ZDZ])) λsl4 cs4 r4 h4 o4 ws4 rr4=>?_;have hbt:=ZMC s2 f;rw [q1] at hbt;have o4':On h4 (ob b (Zq pf ps pb) 223::cf1::cs4::cb::r4::dF::r1::l):=o4.pick [2,3,0,4,1] 5 (by decide) (by decide);refine ZG1 o4' ws4 wb (g:=r4) (by simp) rr4 (ZRD (by rw [q1]; exact hall) (by omega)) (by omega) λcs5 cb5 h5 o5 ws5 wb5=>?_;refine ZN (λt h'=>h'=h5/\t=(bad2||((Zo s2 f).2.2.2.2||(ZAz ((Zo s2 f).1,out2,false) (Zo s2 f).2.1).2.2))) ?_ λJ3 hJ3=>?_
     .rintro t h6 ⟨rfl,rfl⟩;have o5':On h6 (ob b (Zq pf ps pb) 223::cf1::cs5::cb5::dF::r1::l):=o5.pick [0,1,2,3,5] 6 (by decide) (by decide);refine ZD (λe=>?_) λe=>?_
      .have e:(Zo s2 f).2.2.2.1=true:=e;rw [if_pos e] at hJ2;refine ZFL (x:=mkF f.Seq (Zo s2 f).2.2.1) o5' λk7 d7 h7 o7 r7 w7=>?_;have o7':On h7 (dF::d7::ob b (Zq pf ps pb) 223::cf1::cs5::cb5::r1::l):=o7.pick [5,0,1,2,3,4] 6 (by decide) (by decide);refine ZU (g:=d7) (s:=zf) (t:=⟨some ⟨k7,0,none⟩,1,1⟩) o7' rfl wF (by decide) r7 (o7'.mem (by simp)) (by unfold ZAR; simp; omega) λd8 p8 n8 m8 h8 o8 w8=>?_;exact hJ2 (⟨p8,n8,m8⟩,_) h8 ⟨cs5,cb5,d8,o8.pick [2,3,4,5,0] 6 (by decide) (by decide),ws5,wb5,w8,rfl⟩
      .have e:(Zo s2 f).2.2.2.1=false:=e;rw [if_neg (show ¬((Zo s2 f).2.2.2.1=true) by rw [e]; simp)] at hJ2;exact hJ2 (zf,_) h6 ⟨cs5,cb5,dF,o5',ws5,wb5,wF,rfl⟩
     .refine ZD (λe=>hJ3 _ _ ⟨rfl,?_⟩) λe=>ZD (λe2=>hJ3 _ _ ⟨rfl,?_⟩) λe2=>hJ3 _ _ ⟨rfl,?_⟩
      .have e:bad2=true:=e;rw [e]; rfl
      .have e:bad2=false:=e;have e2:(Zo s2 f).2.2.2.2=true:=e2;rw [e,e2]; rfl
      .have e:bad2=false:=e;have e2:(Zo s2 f).2.2.2.2=false:=e2;rw [e,e2,Bool.not_not]; rfl
 .have:i=bodies.length:=by omega
  subst this;rw [List.take_length] at ws wb wF hzs;obtain ⟨o6,o7⟩:=On.joined (cs:=[ob b (Zq pf ps pb) 223,cf1,cs,cb]) (l:=dF::r1::l) o2;subst hzs;exact hq zf dF _ h2 (o6.pick [0,1] 3 (by decide) (by decide)) ⟨b,pf,ps,pb,cf1,cs,cb,rfl,o7,wf1,ws,wb⟩ wF
theorem ZTn {p:Option Addr} {held:List Int} {lost:Nat} {s:SS} {out:List (List Int)} {c h:Hp} {l:List Hp} (o:On h (c::l)) (w:ZDL p held lost s out c) (hn:out.length<=1000)
 {Q:Sl->Hp->Prop} (hq:∀ sl ss c' r' h',On h' (c'::r'::l)->ZDL p held lost s [] c'->Row cSl r' sl ss->ZD3 r' ss out->Q sl h'):ZA TP 114 [Value.pointer p] cSl h Q:=by
 obtain ⟨b,pf,ps,pb,cf,cs,cb,rfl,oc,wf,ws,wb⟩:=w;refine c114 ?_;unfold F114;dsimp only [ZR];have os:On h (ob b (Zq pf ps pb) 223::cf::cs::cb::l):=o.split oc;refine ZT rfl ?_;have oi:On h (ob b (Zq pf ps pb) 223::Hp.emp::Hp.emp::cf::cs::cb::l):=os.emp.emp.pick [2,0,1] 3 (by decide) (by decide);refine ZV8 (λn z h'=>∃ (don rest:List (List Int)) (sls:List Sl) (dO rx cb:Hp),n=rest.length/\out=don++rest/\On h' (ob b (Zq pf ps pb) 223::dO::rx::cf::cs::cb::l)/\Own cSl dO z sls/\ZD3 rx sls don/\ZFM pb 256 rest false cb) out.length
  ⟨[],out,[],Hp.emp,Hp.emp,cb,rfl,rfl,oi,Own.nil _,trivial,wb⟩ ?_
 rintro J n z h1 again ⟨don,rest,sls,dO,rx,cb,rfl,rfl,o1,wo,rr,wb⟩
 have hsl:=rr.len;rw [List.length_append] at hn;refine ZI (x:=pb) o1 0 rfl rfl ?_;have o1':On h1 (cb::ob b (Zq pf ps pb) 223::dO::rx::cf::cs::l):=o1.pick [5,0,1,2,3,4] 6 (by decide) (by decide);refine ZW4 o1' wb (λhnil=>?_) λbs q' s2 d2 cb2 h2 hbs o2 wb2 w2=>?_
 .subst hnil;refine Zh rfl ?_;obtain ⟨o6,o7⟩:=On.joined (cs:=[ob b (Zq pf ps pb) 223,cf,cs,cb]) (l:=dO::rx::l) (o1.pick [0,3,4,5,1,2] 6 (by decide) (by decide));obtain ⟨o8,o9⟩:=On.joined (cs:=[dO,rx]) (o6.pick [1,2,0] 3 (by decide) (by decide));rw [List.append_nil] at hq;exact hq z sls _ _ h1 o8.swap ⟨b,pf,ps,pb,cf,cs,cb,rfl,o7,wf,ws,wb⟩ (wo.row.sub (o9.mem (by simp))) (ZD3.sub (o9.mem (by simp)) rr)
 .subst hbs;refine ZT rfl ?_;have o2':On h2 (d2::ob b (Zq pf ps pb) 223::dO::rx::cf::cs::cb2::l):=o2.pick [1,2,3,4,5,6,0] 7 (by decide) (by decide);refine ZQ7 o2' wo rr w2 (by omega) λp3 n3 m3 d3 r3 h3 o3 w3 rr3=>?_;exact again _ _ _ ⟨don++[bs],q',sls++[s2],d3,r3,cb2,rfl,by simp,o3,w3,rr3,wb2⟩ (by simp)
def ZFq (s:SS) (out:List (List Int)) (m:Msg):SS×List (List Int)×Bool:=
 if (ZAm s m).2.2=true then ((ZAz ((ZAm s m).1,out,false) [(ZAm s m).2.1]).1,(ZAz ((ZAm s m).1,out,false) [(ZAm s m).2.1]).2.1,!(ZAz ((ZAm s m).1,out,false) [(ZAm s m).2.1]).2.2)
 else ((ZAm s m).1,out,false)
theorem ZQU {p:Option Addr} {held:List Int} {lost:Nat} {s:SS} {out:List (List Int)} {m:Msg} {c h:Hp} {l:List Hp} (o:On h (c::l)) (w:ZDL p held lost s out c) (hl:s.all.length≤1000000000) (hw:wfF (mkF (s.all.length+1:Nat) m))
 {Q:Bool->Hp->Prop} (hq:∀ c' h',On h' (c'::l)->ZDL p held lost (ZFq s out m).1 (ZFq s out m).2.1 c'->Q (ZFq s out m).2.2 h'):ZA TP 185 [Value.pointer p,ZAn.enc m] cB h Q:=by
 obtain ⟨b,pf,ps,pb,cf,cs,cb,rfl,oc,wf,ws,wb⟩:=w;refine c185 ?_;unfold F185;dsimp only [ZR];have os:On h (ob b (Zq pf ps pb) 223::cf::cs::cb::l):=o.split oc;refine ZT rfl ?_;refine ZI (x:=ps) os 0 rfl rfl ?_;unfold ZFq at hq;refine ZTB (m:=m) (os.pick [2,0,1,3] 4 (by decide) (by decide)) ws hl λcs2 h2 o2 w2=>?_;have o2':On h2 (ob b (Zq pf ps pb) 223::cf::cs2::cb::l):=o2.pick [1,2,0,3] 4 (by decide) (by decide);refine ZD (λe=>?_) λe=>?_
 .rw [if_pos e] at hq;have hfr:wfF (ZAm s m).2.1:=by
   unfold ZAm at e ⊢;split at e
   .cases e
   .rename_i hc;rw [if_neg hc]; exact hw
  refine ZFL (x:=(ZAm s m).2.1) o2' λk3 d3 h3 o3 r3 w3=>?_;have o3':On h3 (ob b (Zq pf ps pb) 223::cf::cs2::cb::d3::l):=o3.pick [1,2,3,4,0] 5 (by decide) (by decide);refine ZG1 (p1:=⟨some ⟨k3,0,none⟩,1,1⟩) o3' w2 wb (g:=d3) (by simp) r3 (by intro f hf; rw [List.mem_singleton] at hf; subst hf; exact hfr) (by simp) λcs4 cb4 h4 o4 ws4 wb4=>?_;obtain ⟨o6,o7⟩:=On.joined (cs:=[ob b (Zq pf ps pb) 223,cf,cs4,cb4]) (l:=l) (o4.pick [0,1,2,3] 5 (by decide) (by decide));exact hq _ h4 o6 ⟨b,pf,ps,pb,cf,cs4,cb4,rfl,o7,wf,ws4,wb4⟩
 .rw [if_neg (by rw [e]; simp)] at hq;obtain ⟨o6,o7⟩:=On.joined (cs:=[ob b (Zq pf ps pb) 223,cf,cs2,cb]) (l:=l) o2';exact hq _ h2 o6 ⟨b,pf,ps,pb,cf,cs2,cb,rfl,o7,wf,w2,wb⟩
def ZDx (b:Bond) (p:Int):Int:=if b.Low<=p/\p<=b.High then (if p.tmod b.Tick=0 then 0 else 7) else 10
def ZTa (b:Bond) (q:Int):Int:=if b.Min<=q/\q<=b.Max then (if q.tmod b.Lot=0 then 0 else 8) else 9
def ZHj (b:Bond) (p q:Int):Int:=if b.Halted=true then 6 else if ZDx b p≠0 then ZDx b p else ZTa b q
def ZBZ (s:Int):Bool:=s==1||s==2
def ZBg (s:Int):Int:=if ZBZ s=true then 3-s else 0
def ZAD (s a b:Int):Bool:=(s==1&&decide (a>b))||(s==2&&decide (a<b))
def ZKz (s lim price:Int):Bool:=ZBZ s&&!ZAD s price lim
def Zn (o:ZE):Bool:=
 decide (1<=o.ID)&&(decide (1<=o.Seq)&&(decide (1<=o.Price)&&(decide (o.Price<=1000000)&&(decide (1<=o.Left)&&(decide (o.Left<=1000000)&&(decide (0<=o.Owner)&&ZBZ o.Side))))))
def ZLu (l:List ZE) (o:ZE):List ZE×Int:=
 if Zn o=false\/l.any (λx=>x.ID==o.ID||x.Seq==o.Seq)=true then (l,1) else if 64<=l.length then (l,3) else (l++[o],0)
def ZQB (l:List ZE) (id:Int):Option ZE:=l.find? λo=>o.ID==id
def ZBC (l:List ZE) (id:Int):List ZE:=l.eraseP λo=>o.ID==id
def ZAS (o:ZE) (left:Int):ZE:={o with Left:=left}
def ZDD (l:List ZE) (id left:Int):List ZE×Int:=
 match l.findIdx? λo=>o.ID==id with
 | none=>(l,4)
 | some i=>match l[i]? with
   | none=>(l,4)
   | some o=>if left<1\/o.Left<left then (l,1) else (l.set i (ZAS o left),0)
def ZNu (a b:ZE):Int:=
 if ZAD a.Side a.Price b.Price=true then -1 else if ZAD a.Side b.Price a.Price=true then 1 else if a.Seq<b.Seq then -1 else if b.Seq<a.Seq then 1 else 0
def ZSi (o:ZE):List ZE->List ZE
 | []=>[o]
 | x::l=>if ZNu o x<0 then o::x::l else x::ZSi o l
def ZJc (l:List ZE):List ZE:=l.foldr ZSi []
def ZBB (l:List ZE) (s:Int):List ZE:=ZJc (l.filter λo=>o.Side==s)
def ZFO (how:Int) (o x:ZE):Bool:=how==4||ZKz o.Side o.Price x.Price
def ZBu (l:List ZE) (o:ZE) (how:Int):List ZE:=(ZBB l (ZBg o.Side)).takeWhile (ZFO how o)
def ZNV (l:List ZE) (o:ZE) (how:Int):Int:=
 if ZBZ o.Side=false then 0 else max (min (((ZBu l o how).filter λx=>x.Owner != o.Owner).map λx=>x.Left).sum o.Left) 0
def ZC6 (l:List ZE) (o:ZE) (how:Int):Bool:=
 if how<0\/4<how then false
 else if how=4/\o.Price≠0 then false
 else if (l.any λx=>ZBZ x.Side&&(x.ID==o.ID||x.Seq==o.Seq))=true then false
 else Zn (if how=4 then {o with Price:=1} else o)
def ZC4 (how:Int):Bool:=how==0||how==3
def ZBW (l:List ZE) (o:ZE) (how:Int):Int:=
 if ZC6 l o how=false then 1
 else if ZC4 how=true/\64<=l.length then 3
 else if how=3/\ZBu l o how≠[] then 16
 else if how=2/\ZNV l o how<o.Left then 17
 else 0
structure ZB5 where
 l:List ZE
 o:ZE
 fills:List ZH5
 gone:List ZOs
def ZEt (o x:ZE) (n:Int):ZH5:=⟨x.ID,o.ID,x.Owner,o.Owner,x.Price,n,x.Left-n⟩
def Zi (c:ZB5) (x:ZE):ZB5:=
 if c.o.Left=0 then c
 else if x.Owner=c.o.Owner then {c with l:=ZBC c.l x.ID,gone:=c.gone++[⟨x.ID,x.Owner,x.Left⟩]}
 else
  {l:=if min c.o.Left x.Left=x.Left then ZBC c.l x.ID else (ZDD c.l x.ID (x.Left-min c.o.Left x.Left)).1,
   o:=ZAS c.o (c.o.Left-min c.o.Left x.Left),fills:=c.fills++[ZEt c.o x (min c.o.Left x.Left)],gone:=c.gone}
def ZAJ (l:List ZE) (o:ZE) (how:Int):ZB5:=(ZBu l o how).foldl Zi ⟨l,o,[],[]⟩
def doV (l:List ZE) (o:ZE) (how:Int):List ZE×List ZH5×List ZOs×Int×Int:=
 if ZBW l o how≠0 then (l,[],[],0,ZBW l o how)
 else
  (if ZC4 how=true/\0<(ZAJ l o how).o.Left then (ZLu (ZAJ l o how).l (ZAJ l o how).o).1 else (ZAJ l o how).l,
    (ZAJ l o how).fills,(ZAJ l o how).gone,(ZAJ l o how).o.Left,0)
theorem ZF {b:Nat} {vs:List Value} {e:TypeId} {h:Hp} (hs:(ob b vs e).sub h) {cd:Cdc} {i:Nat} {x:cd.T} {K:cd.T->Prop}
 (hx:(vs.drop i).take (cd.enc x).cells.toList.length=(cd.enc x).cells.toList) (h2:K x):ZC cd ⟨b,i,none⟩ h K:=
 ⟨x,Hp.sub_rds hs (ZCS hx),h2⟩
theorem ZQH {p0:Sl} {g h:Hp} {l:List Hp} {xs:List Bond} (o:On h l) (hg:g∈l) (r:Row ZAB g p0 xs) (hl:xs.length<=1000000) {Q:Sl->Hp->Prop}
 (hq:∀ s d h',On h' (d::l)->Own ZAB d s xs->Q s h'):ZA TP 34 [Value.slice p0.a p0.len p0.cap] cSl h Q:=by
 refine c34 ?_;unfold F34;exact ZED o hg r rfl (by decide) (by decide) hl hq
theorem ZLG {p0:Sl} {g h:Hp} {l:List Hp} {xs:List ZAa} (o:On h l) (hg:g∈l) (r:Row Z2 g p0 xs) (hl:xs.length<=1000000) {Q:Sl->Hp->Prop}
 (hq:∀ s d h',On h' (d::l)->Own Z2 d s xs->Q s h'):ZA TP 35 [Value.slice p0.a p0.len p0.cap] cSl h Q:=by
 refine c35 ?_;unfold F35;exact ZED o hg r rfl (by decide) (by decide) hl hq
theorem ZTS {p0:Sl} {g h:Hp} {l:List Hp} {xs:List ZAr} (o:On h l) (hg:g∈l) (r:Row Z4 g p0 xs) (hl:xs.length<=1000000) {Q:Sl->Hp->Prop}
 (hq:∀ s d h',On h' (d::l)->Own Z4 d s xs->Q s h'):ZA TP 75 [Value.slice p0.a p0.len p0.cap] cSl h Q:=by
 refine c75 ?_;unfold F75;exact ZED o hg r rfl (by decide) (by decide) hl hq
theorem ZQf {p0:Sl} {g h:Hp} {l:List Hp} {xs:List Ask} (o:On h l) (hg:g∈l) (r:Row ZAb g p0 xs) (hl:xs.length<=1000000) {Q:Sl->Hp->Prop}
 (hq:∀ s d h',On h' (d::l)->Own ZAb d s xs->Q s h'):ZA TP 76 [Value.slice p0.a p0.len p0.cap] cSl h Q:=by
 refine c76 ?_;unfold F76;exact ZED o hg r rfl (by decide) (by decide) hl hq
theorem ZSj {p0:Sl} {g h:Hp} {l:List Hp} {xs:List Due} (o:On h l) (hg:g∈l) (r:Row ZBk g p0 xs) (hl:xs.length<=1000000) {Q:Sl->Hp->Prop}
 (hq:∀ s d h',On h' (d::l)->Own ZBk d s xs->Q s h'):ZA TP 138 [Value.slice p0.a p0.len p0.cap] cSl h Q:=by
 refine c138 ?_;unfold F138;exact ZED o hg r rfl (by decide) (by decide) hl hq
theorem ZPG {p0:Sl} {c h:Hp} {l:List Hp} {xs:List Due} {i j:Nat} (o:On h (c::l)) (w:Own ZBk c p0 xs) (hij:i<=j) (hj:j<=xs.length) {Q:Sl->Hp->Prop}
 (hq:∀ s c' h',On h' (c'::l)->Own ZBk c' s (xs.take i++xs.drop j)->Q s h'):ZA TP 139 [Value.slice p0.a p0.len p0.cap,Value.int .i64 i,Value.int .i64 j] cSl h Q:=by
 refine c139 ?_;unfold F139;exact ZIq o w rfl (by decide) rfl hij hj hq
theorem ZPN {p0:Sl} {c h:Hp} {l:List Hp} {xs:List ZE} {i j:Nat} (o:On h (c::l)) (w:Own ZK c p0 xs) (hij:i<=j) (hj:j<=xs.length) {Q:Sl->Hp->Prop}
 (hq:∀ s c' h',On h' (c'::l)->Own ZK c' s (xs.take i++xs.drop j)->Q s h'):ZA TP 146 [Value.slice p0.a p0.len p0.cap,Value.int .i64 i,Value.int .i64 j] cSl h Q:=by
 refine c146 ?_;unfold F146;exact ZIq o w rfl (by decide) rfl hij hj hq
theorem ZRb {f:FnV} {cc:List Hp} {φ:ZAB.T->Bool} (hf:Clo TP cc f (λx=>[ZAB.enc x]) cB φ) {p0:Sl} {g h:Hp} {l:List Hp} {xs:List Bond} (o:On h l) (hcc:∀ p∈cc,p∈l) (hg:g∈l) (r:Row ZAB g p0 xs) (hl:xs.length<=1000000)
 {Q:Int->Hp->Prop} (hq:∀ h',On h' l->Q (ZO1 (xs.findIdx? φ)) h'):ZA TP 196 [Value.slice p0.a p0.len p0.cap,Value.func (Fn.func f.g) f.first f.cap] (cI .i64) h Q:=by
 refine c196 ?_;unfold F196;exact ZEJ hf o hcc hg r rfl rfl hl hq
theorem ZTH {f:FnV} {cc:List Hp} {φ:Z2.T->Bool} (hf:Clo TP cc f (λx=>[Z2.enc x]) cB φ) {p0:Sl} {g h:Hp} {l:List Hp} {xs:List ZAa} (o:On h l) (hcc:∀ p∈cc,p∈l) (hg:g∈l) (r:Row Z2 g p0 xs) (hl:xs.length<=1000000)
 {Q:Int->Hp->Prop} (hq:∀ h',On h' l->Q (ZO1 (xs.findIdx? φ)) h'):ZA TP 197 [Value.slice p0.a p0.len p0.cap,Value.func (Fn.func f.g) f.first f.cap] (cI .i64) h Q:=by
 refine c197 ?_;unfold F197;exact ZEJ hf o hcc hg r rfl rfl hl hq
theorem ZG5 {f:FnV} {cc:List Hp} {φ:ZK.T->Bool} (hf:Clo TP cc f (λx=>[ZK.enc x]) cB φ) {p0:Sl} {g h:Hp} {l:List Hp} {xs:List ZE} (o:On h l) (hcc:∀ p∈cc,p∈l) (hg:g∈l) (r:Row ZK g p0 xs) (hl:xs.length<=1000000)
 {Q:Int->Hp->Prop} (hq:∀ h',On h' l->Q (ZO1 (xs.findIdx? φ)) h'):ZA TP 228 [Value.slice p0.a p0.len p0.cap,Value.func (Fn.func f.g) f.first f.cap] (cI .i64) h Q:=by
 refine c228 ?_;unfold F228;exact ZEJ hf o hcc hg r rfl rfl hl hq
theorem ZS0 {f:FnV} {cc:List Hp} {φ:ZBk.T->Bool} (hf:Clo TP cc f (λx=>[ZBk.enc x]) cB φ) {p0:Sl} {g h:Hp} {l:List Hp} {xs:List Due} (o:On h l) (hcc:∀ p∈cc,p∈l) (hg:g∈l) (r:Row ZBk g p0 xs) (hl:xs.length<=1000000)
 {Q:Int->Hp->Prop} (hq:∀ h',On h' l->Q (ZO1 (xs.findIdx? φ)) h'):ZA TP 230 [Value.slice p0.a p0.len p0.cap,Value.func (Fn.func f.g) f.first f.cap] (cI .i64) h Q:=by
 refine c230 ?_;unfold F230;exact ZEJ hf o hcc hg r rfl rfl hl hq
theorem ZRK {f:FnV} {cc:List Hp} {φ:ZS.T->Bool} (hf:Clo TP cc f (λx=>[ZS.enc x]) cB φ) {p0:Sl} {g h:Hp} {l:List Hp} {xs:List Za} (o:On h l) (hcc:∀ p∈cc,p∈l) (hg:g∈l) (r:Row ZS g p0 xs) (hl:xs.length<=1000000)
 {Q:Int->Hp->Prop} (hq:∀ h',On h' l->Q (ZO1 (xs.findIdx? φ)) h'):ZA TP 343 [Value.slice p0.a p0.len p0.cap,Value.func (Fn.func f.g) f.first f.cap] (cI .i64) h Q:=by
 refine c343 ?_;unfold F343;exact ZEJ hf o hcc hg r rfl rfl hl hq
theorem ZMs {α:Type} (φ:α→Bool) (xs:List α):decide (ZO1 (xs.findIdx? φ)≥0)=xs.any φ:=by
 cases h:xs.findIdx? φ with
 | none=>
   have:=List.findIdx?_eq_none_iff.1 h;have e:xs.any φ=false:=List.any_eq_false.2 λx hx=>by rw [this x hx]; simp
   rw [e]; rfl
 | some i=>
   obtain ⟨hi,h1,_⟩:=List.findIdx?_eq_some_iff_getElem.1 h;have e:xs.any φ=true:=List.any_eq_true.2 ⟨xs[i],List.getElem_mem hi,h1⟩;rw [e];exact decide_eq_true (by show (0:Int)<=((i:Nat):Int); omega)
theorem ZLL {f:FnV} {cc:List Hp} {φ:ZAB.T->Bool} (hf:Clo TP cc f (λx=>[ZAB.enc x]) cB φ) {p0:Sl} {g h:Hp} {l:List Hp} {xs:List Bond} (o:On h l) (hcc:∀ p∈cc,p∈l) (hg:g∈l) (r:Row ZAB g p0 xs) (hl:xs.length<=1000000)
 {Q:Bool->Hp->Prop} (hq:∀ h',On h' l->Q (xs.any φ) h'):ZA TP 123 [Value.slice p0.a p0.len p0.cap,Value.func (Fn.func f.g) f.first f.cap] cB h Q:=by
 refine c123 ?_;unfold F123;refine ZRb hf o hcc hg r hl λh' o'=>?_;rw [ZMs];exact hq h' o'
theorem ZKV {f:FnV} {cc:List Hp} {φ:Z2.T->Bool} (hf:Clo TP cc f (λx=>[Z2.enc x]) cB φ) {p0:Sl} {g h:Hp} {l:List Hp} {xs:List ZAa} (o:On h l) (hcc:∀ p∈cc,p∈l) (hg:g∈l) (r:Row Z2 g p0 xs) (hl:xs.length<=1000000)
 {Q:Bool->Hp->Prop} (hq:∀ h',On h' l->Q (xs.any φ) h'):ZA TP 124 [Value.slice p0.a p0.len p0.cap,Value.func (Fn.func f.g) f.first f.cap] cB h Q:=by
 refine c124 ?_;unfold F124;refine ZTH hf o hcc hg r hl λh' o'=>?_;rw [ZMs];exact hq h' o'
theorem ZGV {f:FnV} {cc:List Hp} {φ:ZK.T->Bool} (hf:Clo TP cc f (λx=>[ZK.enc x]) cB φ) {p0:Sl} {g h:Hp} {l:List Hp} {xs:List ZE} (o:On h l) (hcc:∀ p∈cc,p∈l) (hg:g∈l) (r:Row ZK g p0 xs) (hl:xs.length<=1000000)
 {Q:Bool->Hp->Prop} (hq:∀ h',On h' l->Q (xs.any φ) h'):ZA TP 374 [Value.slice p0.a p0.len p0.cap,Value.func (Fn.func f.g) f.first f.cap] cB h Q:=by
 refine c374 ?_;unfold F374;refine ZG5 hf o hcc hg r hl λh' o'=>?_;rw [ZMs];exact hq h' o'
theorem ZPR {f:FnV} {cc:List Hp} {θ:ZAb.T->Int} {tv:Int} (hf:Clo TP cc f (λx=>[ZAb.enc x,Value.int .i64 tv]) (cI .i64) θ) {p0:Sl} {g h:Hp} {l:List Hp} {xs:List Ask} (o:On h l) (hcc:∀ p∈cc,p∈l) (hg:g∈l) (r:Row ZAb g p0 xs) (hl:xs.length<=1000000)
 {Q:Int×Bool->Hp->Prop} (hq:∀ (i:Nat) h',i<=xs.length->(∀ k,(∀ x∈xs.take k,θ x<0)->(∀ x∈xs.drop k,0<=θ x)->k<=xs.length->i=k)->On h' l->Q ((i:Int),((xs[i]?).map λx=>θ x==0).getD false) h'):
 ZA TP 222 [Value.slice p0.a p0.len p0.cap,Value.int .i64 tv,Value.func (Fn.func f.g) f.first f.cap] (ZW [cI .i64,cB]) h Q:=by
 refine c222 ?_;unfold F222;exact ZE4 hf o hcc hg r rfl rfl hl hq
theorem ZPs {f:FnV} {cc:List Hp} {θ:ZS.T->Int} {tv:Int} (hf:Clo TP cc f (λx=>[ZS.enc x,Value.int .i64 tv]) (cI .i64) θ) {p0:Sl} {g h:Hp} {l:List Hp} {xs:List Za} (o:On h l) (hcc:∀ p∈cc,p∈l) (hg:g∈l) (r:Row ZS g p0 xs) (hl:xs.length<=1000000)
 {Q:Int×Bool->Hp->Prop} (hq:∀ (i:Nat) h',i<=xs.length->(∀ k,(∀ x∈xs.take k,θ x<0)->(∀ x∈xs.drop k,0<=θ x)->k<=xs.length->i=k)->On h' l->Q ((i:Int),((xs[i]?).map λx=>θ x==0).getD false) h'):
 ZA TP 224 [Value.slice p0.a p0.len p0.cap,Value.int .i64 tv,Value.func (Fn.func f.g) f.first f.cap] (ZW [cI .i64,cB]) h Q:=by
 refine c224 ?_;unfold F224;exact ZE4 hf o hcc hg r rfl rfl hl hq
theorem ZP1 {f:FnV} {cc:List Hp} {θ:ZBk.T->Int} {tv:Due} (hf:Clo TP cc f (λx=>[ZBk.enc x,ZBk.enc tv]) (cI .i64) θ) {p0:Sl} {g h:Hp} {l:List Hp} {xs:List Due} (o:On h l) (hcc:∀ p∈cc,p∈l) (hg:g∈l) (r:Row ZBk g p0 xs) (hl:xs.length<=1000000)
 {Q:Int×Bool->Hp->Prop} (hq:∀ (i:Nat) h',i<=xs.length->(∀ k,(∀ x∈xs.take k,θ x<0)->(∀ x∈xs.drop k,0<=θ x)->k<=xs.length->i=k)->On h' l->Q ((i:Int),((xs[i]?).map λx=>θ x==0).getD false) h'):
 ZA TP 283 [Value.slice p0.a p0.len p0.cap,ZBk.enc tv,Value.func (Fn.func f.g) f.first f.cap] (ZW [cI .i64,cB]) h Q:=by
 refine c283 ?_;unfold F283;exact ZE4 hf o hcc hg r rfl rfl hl hq
theorem ZME {f:FnV} {cc:List Hp} {φ:Za->Bool} (hf:Clo TP cc f (λx=>[ZS.enc x]) cB φ) {p0:Sl} {c h:Hp} {l:List Hp} {xs:List Za} (o:On h (c::l)) (hcc:∀ p∈cc,p∈l) (w:Own ZS c p0 xs) (hl:xs.length<=1000000)
 {Q:Sl->Hp->Prop} (hq:∀ s c' h',On h' (c'::l)->Own ZS c' s (xs.filter λx=>!φ x)->Q s h'):ZA TP 299 [Value.slice p0.a p0.len p0.cap,Value.func (Fn.func f.g) f.first f.cap] cSl h Q:=by
 refine c299 ?_;unfold F299;refine ZRK hf o (λp hp=>by simp [hcc p hp]) (by simp) w.row hl λh' o'=>?_;exact ZMu hf o' hcc w rfl (by decide) rfl hl hq
def ZDW (a b:Int):Int:=if a<b then -1 else if b<a then 1 else 0
theorem ZNf {a:Int} {h:Hp} {Q:Bool->Hp->Prop} (hq:Q false h):ZA TP 180 [Value.int .i64 a] cB h Q:=by refine c180 ?_;unfold F180;simpa using hq
theorem ZLK {a:Int} {h:Hp} {Q:Bool->Hp->Prop} (hq:Q false h):ZA TP 359 [Value.int .i64 a] cB h Q:=by refine c359 ?_;unfold F359;simpa using hq
theorem ZK1 {a:Int} {h:Hp} {Q:Bool->Hp->Prop} (hq:Q false h):ZA TP 379 [Value.int .u64 a] cB h Q:=by refine c379 ?_;unfold F379;simpa using hq
theorem ZJl {a b:Int} {h:Hp} {Q:Int->Hp->Prop} (hq:Q (ZDW a b) h):ZB (decide (a<b)) (Q (-1) h) (ZB (decide (a>b)) (Q 1 h) (Q 0 h)):=by
 unfold ZDW at hq;refine ZJ (λh1=>?_) λh1=>ZJ (λh2=>?_) λh2=>?_
 .rwa [if_pos h1] at hq
 .rwa [if_neg h1,if_pos h2] at hq
 .rwa [if_neg h1,if_neg h2] at hq
theorem ZEO {a b:Int} {h:Hp} {Q:Int->Hp->Prop} (hq:Q (ZDW a b) h):ZA TP 103 [Value.int .i64 a,Value.int .i64 b] (cI .i64) h Q:=by refine c103 ?_;unfold F103;exact ZNf (ZNf (ZT rfl (ZT rfl (ZJl hq))))
theorem ZLo {a b:Int} {h:Hp} {Q:Int->Hp->Prop} (hq:Q (ZDW a b) h):ZA TP 327 [Value.int .i64 a,Value.int .i64 b] (cI .i64) h Q:=by refine c327 ?_;unfold F327;exact ZLK (ZLK (ZT rfl (ZT rfl (ZJl hq))))
theorem ZHR {a b:Int} {h:Hp} {Q:Int->Hp->Prop} (hq:Q (ZDW a b) h):ZA TP 365 [Value.int .u64 a,Value.int .u64 b] (cI .i64) h Q:=by refine c365 ?_;unfold F365;exact ZK1 (ZK1 (ZT rfl (ZT rfl (ZJl hq))))
def ZTX:List Int->Int
 | []=>0
 | x::l=>if x≠0 then x else ZTX l
theorem ZNz {p0:Sl} {g h:Hp} {l:List Hp} {xs:List Int} (o:On h l) (hg:g∈l) (r:Row (cI .i64) g p0 xs) (hl:xs.length≤1000) {Q:Int→Hp→Prop} (hq:Q (ZTX xs) h):ZA TP 326 [Value.slice p0.a p0.len p0.cap] (cI .i64) h Q:=by
 refine c326 ?_;unfold F326;have hlen:=r.1;refine Zb (λz h'=>∃ i:Nat,z=i/\i<=xs.length/\h'=h/\ZTX xs=ZTX (xs.drop i)) (λz=>xs.length-z.toNat) ⟨0,rfl,Nat.zero_le _,rfl,rfl⟩ ?_;rintro J n h1 again ⟨i,rfl,hle,rfl,he⟩
 refine ZJ (λhlt=>?_) λhge=>?_
 .have hi:i<xs.length:=by omega
  have a0:xs[i]?=some xs[i]:=List.getElem?_eq_getElem hi;have hd:xs.drop i=xs[i]::xs.drop (i+1):=List.drop_eq_getElem_cons hi;refine ZL r (Int.natCast_nonneg i) (by omega) λa ha=>ZO r (o.mem hg) rfl ha (i:=i) a0 (by simp) ?_;rw [hd] at he;refine ZD (λe=>?_) λe=>?_
  .have e:xs[i]≠0:=by simpa using e
   rw [he] at hq;unfold ZTX at hq;rwa [if_pos e] at hq
  .have e:xs[i]=0:=by simpa using e
   refine again _ _ ⟨i+1,ZAQ (by omega),by omega,rfl,?_⟩ (by rw [ZAQ (by omega)]; omega);rw [he];show (if xs[i]≠0 then xs[i] else ZTX (xs.drop (i+1)))=_;rw [if_neg (by simp [e])]
 .have:i=xs.length:=by omega
  subst this;rw [List.drop_length] at he;rw [he] at hq;exact hq
theorem ZY6 {k0:Nat} {id:Int}:Clo TP [ob k0 [Value.int .i64 id] 2] ⟨229,#[],#[.pointer (some ⟨k0,0,none⟩)]⟩ (λx=>[ZK.enc x]) cB (λx:ZE=>x.ID==id):=by intro x h l Q hcc o hq;refine ⟨⟨Tryz.f229,_,Tryz.func229,rfl⟩,?_⟩;have m0:=o.mem (hcc (ob k0 [Value.int .i64 id] 2) (by simp));refine c229 ?_;unfold F229;exact ZF m0 (x:=id) rfl (hq h o)
theorem ZYo {k0:Nat} {k1:Nat} {k id:Int}:Clo TP [ob k0 [Value.int .i64 k] 3,ob k1 [Value.int .i64 id] 2] ⟨231,#[],#[.pointer (some ⟨k0,0,none⟩),.pointer (some ⟨k1,0,none⟩)]⟩ (λx=>[ZBk.enc x]) cB (λx:Due=>x.Kind==k&&x.ID==id):=by
 intro x h l Q hcc o hq;refine ⟨⟨Tryz.f231,_,Tryz.func231,rfl⟩,?_⟩;have m0:=o.mem (hcc (ob k0 [Value.int .i64 k] 3) (by simp));have m1:=o.mem (hcc (ob k1 [Value.int .i64 id] 2) (by simp));refine c231 ?_;unfold F231;refine ZF m0 (x:=k) rfl ?_;refine ZD (λe=>?_) λe=>?_
 .refine ZF m1 (x:=id) rfl ?_;have:=hq h o;dsimp only at this;rwa [e,Bool.true_and] at this
 .have:=hq h o;dsimp only at this;rwa [e,Bool.false_and] at this
theorem ZYn  {id:Int}:Clo TP [] ⟨223,#[],#[]⟩ (λx=>[ZAb.enc x,Value.int .i64 id]) (cI .i64) (λx:Ask=>ZDW x.ID id):=by intro x h l Q hcc o hq;refine ⟨⟨Tryz.f223,_,Tryz.func223,rfl⟩,?_⟩;refine c223 ?_;unfold F223;exact ZEO (hq h o)
theorem ZZs  {id:Int}:Clo TP [] ⟨225,#[],#[]⟩ (λx=>[ZS.enc x,Value.int .i64 id]) (cI .i64) (λx:Za=>ZDW x.ID id):=by intro x h l Q hcc o hq;refine ⟨⟨Tryz.f225,_,Tryz.func225,rfl⟩,?_⟩;refine c225 ?_;unfold F225;exact ZEO (hq h o)
theorem ZYR {k0:Nat} {id:Int}:Clo TP [ob k0 [Value.int .i64 id] 2] ⟨298,#[],#[.pointer (some ⟨k0,0,none⟩)]⟩ (λx=>[ZS.enc x]) cB (λx:Za=>x.Ask==id):=by intro x h l Q hcc o hq;refine ⟨⟨Tryz.f298,_,Tryz.func298,rfl⟩,?_⟩;have m0:=o.mem (hcc (ob k0 [Value.int .i64 id] 2) (by simp));refine c298 ?_;unfold F298;exact ZF m0 (x:=id) rfl (hq h o)
theorem ZZf {k0:Nat} {id:Int}:Clo TP [ob k0 [Value.int .i64 id] 2] ⟨300,#[],#[.pointer (some ⟨k0,0,none⟩)]⟩ (λx=>[ZS.enc x]) cB (λx:Za=>x.Ask==id):=by intro x h l Q hcc o hq;refine ⟨⟨Tryz.f300,_,Tryz.func300,rfl⟩,?_⟩;have m0:=o.mem (hcc (ob k0 [Value.int .i64 id] 2) (by simp));refine c300 ?_;unfold F300;exact ZF m0 (x:=id) rfl (hq h o)
theorem ZZa {k0:Nat} {id:Int}:Clo TP [ob k0 [Value.int .i64 id] 3] ⟨148,#[],#[.pointer (some ⟨k0,0,none⟩)]⟩ (λx=>[ZS.enc x]) cB (λx:Za=>x.Dealer==id&&x.Live):=by intro x h l Q hcc o hq;refine ⟨⟨Tryz.f148,_,Tryz.func148,rfl⟩,?_⟩;have m0:=o.mem (hcc (ob k0 [Value.int .i64 id] 3) (by simp));refine c148 ?_;unfold F148;refine ZF m0 (x:=id) rfl ?_;have:=hq h o;dsimp only at this;exact ZD (λe=>by rwa [e,Bool.true_and] at this) λe=>by rwa [e,Bool.false_and] at this
theorem ZYk {k0:Nat} {k1:Nat} {k id:Int}:Clo TP [ob k0 [Value.int .i64 k] 2,ob k1 [Value.int .i64 id] 2] ⟨289,#[],#[.pointer (some ⟨k0,0,none⟩),.pointer (some ⟨k1,0,none⟩)]⟩ (λx=>[ZS.enc x]) cB (λx:Za=>x.Ask==k&&(x.Live&&decide (x.Expires>id))):=by
 intro x h l Q hcc o hq;refine ⟨⟨Tryz.f289,_,Tryz.func289,rfl⟩,?_⟩;have m0:=o.mem (hcc (ob k0 [Value.int .i64 k] 2) (by simp));have m1:=o.mem (hcc (ob k1 [Value.int .i64 id] 2) (by simp));refine c289 ?_;unfold F289;refine ZF m0 (x:=k) rfl ?_;have:=hq h o;dsimp only at this;refine ZD (λe=>ZD (λe2=>?_) λe2=>?_) λe=>?_
 .refine ZF m1 (x:=id) rfl ?_;rwa [e,e2,Bool.true_and,Bool.true_and] at this
 .rwa [e,e2,Bool.true_and,Bool.false_and] at this
 .rwa [e,Bool.false_and] at this
theorem ZY4 {k0:Nat} {y:ZE}:Clo TP [ob k0 (ZK.enc y).cells.toList 74] ⟨375,#[],#[.pointer (some ⟨k0,0,none⟩)]⟩ (λx=>[ZK.enc x]) cB (λx:ZE=>x.ID==y.ID||x.Seq==y.Seq):=by intro x h l Q hcc o hq;refine ⟨⟨Tryz.f375,_,Tryz.func375,rfl⟩,?_⟩;have m0:=o.mem (hcc (ob k0 (ZK.enc y).cells.toList 74) (by simp));refine c375 ?_;unfold F375;have:=hq h o;dsimp only at this;refine ZF m0 (x:=y.ID) rfl ?_;refine ZD (λe=>by rwa [e,Bool.true_or] at this) λe=>?_;refine ZF m0 (x:=y.Seq) rfl ?_;rwa [e,Bool.false_or] at this
theorem ZZB {k0:Nat} {y:ZE}:Clo TP [ob k0 (ZK.enc y).cells.toList 74] ⟨381,#[],#[.pointer (some ⟨k0,0,none⟩)]⟩ (λx=>[ZK.enc x]) cB (λx:ZE=>x.ID==y.ID||x.Seq==y.Seq):=by intro x h l Q hcc o hq;refine ⟨⟨Tryz.f381,_,Tryz.func381,rfl⟩,?_⟩;have m0:=o.mem (hcc (ob k0 (ZK.enc y).cells.toList 74) (by simp));refine c381 ?_;unfold F381;have:=hq h o;dsimp only at this;refine ZF m0 (x:=y.ID) rfl ?_;refine ZD (λe=>by rwa [e,Bool.true_or] at this) λe=>?_;refine ZF m0 (x:=y.Seq) rfl ?_;rwa [e,Bool.false_or] at this
theorem ZMP {a b:Due} {h:Hp} {l:List Hp} (o:On h l) {Q:Int->Hp->Prop} (hq:∀ h',On h' l->Q (ZTX [ZDW a.Tick b.Tick,ZDW a.Kind b.Kind,ZDW a.ID b.ID]) h'):ZA TP 284 [ZBk.enc a,ZBk.enc b] (cI .i64) h Q:=by refine c284 ?_;unfold F284;refine ZEO (ZLo (ZEO ?_));refine ZH o λk1 h1 o1=>?_;exact ZNz (g:=ob k1 [Value.int .i64 (ZDW a.Tick b.Tick),Value.int .i64 (ZDW a.Kind b.Kind),Value.int .i64 (ZDW a.ID b.ID)] 3) (p0:=⟨some ⟨k1,0,none⟩,3,3⟩) (xs:=[ZDW a.Tick b.Tick,ZDW a.Kind b.Kind,ZDW a.ID b.ID]) o1 (by simp) (Ze rfl rfl) (by simp) (hq h1 o1.tail)
theorem ZZZ {b:Due}:Clo TP [] ⟨284,#[],#[]⟩ (λx=>[ZBk.enc x,ZBk.enc b]) (cI .i64) (λx:Due=>ZTX [ZDW x.Tick b.Tick,ZDW x.Kind b.Kind,ZDW x.ID b.ID]):=by intro x h l Q hcc o hq;refine ⟨⟨Tryz.f284,_,Tryz.func284,rfl⟩,?_⟩;exact ZMP o hq
end Go.Proofs.YtkmniidiifpdgaaGreat
