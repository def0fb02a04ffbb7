/- Made by program: of our texts what this law needs (YtkmniidiifpdgaaGreatTy FA FB FC FD FE FF FG). -/
import Derived.Test.YtkmniidiifpdgaaGreatP01
import Derived.Test.YtkmniidiifpdgaaGreatProg
import Derived.KernelRfl
set_option linter.unusedVariables false
namespace Go.Proofs.YtkmniidiifpdgaaGreat
open Go.Eng
structure ZEl where
 Bonds:Sl
 Parties:Sl
 Look:Int
 Beat:Int
abbrev ZAq:Cdc:=ZC7 ZEl [.sl,.sl,.i .i64,.i .i64] (λx=>⟨x.1,x.2.1,x.2.2.1,x.2.2.2⟩) (λs=>(s.Bonds,s.Parties,s.Look,s.Beat)) (λ_=>rfl) (λ_=>rfl)
structure ZWv where
 Bonds:Sl
 look:Int
 T:Int
 Books:Sl
 Firm:Option Addr
 Q:Option Addr
 A:Option Addr
 D:Option Addr
 P:Option Addr
 B:Option Addr
 orders:Int
 seqs:Int
 quotes:Int
 asks:Int
 outs:Sl
abbrev ZNk:Cdc:=ZC7 ZWv [.sl,.i .i64,.i .i64,.sl,.p,.p,.p,.p,.p,.p,.i .i64,.i .i64,.i .i64,.i .i64,.sl] (λx=>⟨x.1,x.2.1,x.2.2.1,x.2.2.2.1,x.2.2.2.2.1,x.2.2.2.2.2.1,x.2.2.2.2.2.2.1,x.2.2.2.2.2.2.2.1,x.2.2.2.2.2.2.2.2.1,x.2.2.2.2.2.2.2.2.2.1,x.2.2.2.2.2.2.2.2.2.2.1,x.2.2.2.2.2.2.2.2.2.2.2.1,x.2.2.2.2.2.2.2.2.2.2.2.2.1,x.2.2.2.2.2.2.2.2.2.2.2.2.2.1,x.2.2.2.2.2.2.2.2.2.2.2.2.2.2⟩) (λs=>(s.Bonds,s.look,s.T,s.Books,s.Firm,s.Q,s.A,s.D,s.P,s.B,s.orders,s.seqs,s.quotes,s.asks,s.outs)) (λ_=>rfl) (λ_=>rfl)
structure Ask where
 ID:Int
 Client:Int
 Bond:Int
 Side:Int
 Qty:Int
 Dealers:Int
 Ends:Int
 Until:Int
 State:Int
 Hit:Int
abbrev ZAb:Cdc:=ZC7 Ask [.i .i64,.i .i64,.i .i64,.i .i64,.i .i64,.i .u64,.i .i64,.i .i64,.i .i64,.i .i64] (λx=>⟨x.1,x.2.1,x.2.2.1,x.2.2.2.1,x.2.2.2.2.1,x.2.2.2.2.2.1,x.2.2.2.2.2.2.1,x.2.2.2.2.2.2.2.1,x.2.2.2.2.2.2.2.2.1,x.2.2.2.2.2.2.2.2.2⟩) (λs=>(s.ID,s.Client,s.Bond,s.Side,s.Qty,s.Dealers,s.Ends,s.Until,s.State,s.Hit)) (λ_=>rfl) (λ_=>rfl)
structure ZFU where
 Hi:Int
 Lo:Int
abbrev ZAl:Cdc:=ZC7 ZFU [.i .u64,.i .u64] (λx=>⟨x.1,x.2⟩) (λs=>(s.Hi,s.Lo)) (λ_=>rfl) (λ_=>rfl)
structure ZON where
 e0:Int
 e1:Int
 e2:Int
 e3:Int
 e4:Int
 e5:Int
abbrev ZD5:Cdc:=ZC7 ZON [.i .i64,.i .i64,.i .i64,.i .i64,.i .i64,.i .i64] (λx=>⟨x.1,x.2.1,x.2.2.1,x.2.2.2.1,x.2.2.2.2.1,x.2.2.2.2.2⟩) (λs=>(s.e0,s.e1,s.e2,s.e3,s.e4,s.e5)) (λ_=>rfl) (λ_=>rfl)
structure Msg where
 Kind:Int
 F_0:Int
 F_1:Int
 F_2:Int
 F_3:Int
 F_4:Int
 F_5:Int
abbrev ZAn:Cdc:=ZC7 Msg [.i .i64,.i .i64,.i .i64,.i .i64,.i .i64,.i .i64,.i .i64] (λx=>⟨x.1,x.2.1,x.2.2.1,x.2.2.2.1,x.2.2.2.2.1,x.2.2.2.2.2.1,x.2.2.2.2.2.2⟩) (λs=>(s.Kind,s.F_0,s.F_1,s.F_2,s.F_3,s.F_4,s.F_5)) (λ_=>rfl) (λ_=>rfl)
structure ZEF where
 Kind:Int
 Who:Int
 N:Int
 Msg_Kind:Int
 Msg_F_0:Int
 Msg_F_1:Int
 Msg_F_2:Int
 Msg_F_3:Int
 Msg_F_4:Int
 Msg_F_5:Int
abbrev ZBe:Cdc:=ZC7 ZEF [.i .i64,.i .i64,.i .i64,.i .i64,.i .i64,.i .i64,.i .i64,.i .i64,.i .i64,.i .i64] (λx=>⟨x.1,x.2.1,x.2.2.1,x.2.2.2.1,x.2.2.2.2.1,x.2.2.2.2.2.1,x.2.2.2.2.2.2.1,x.2.2.2.2.2.2.2.1,x.2.2.2.2.2.2.2.2.1,x.2.2.2.2.2.2.2.2.2⟩) (λs=>(s.Kind,s.Who,s.N,s.Msg_Kind,s.Msg_F_0,s.Msg_F_1,s.Msg_F_2,s.Msg_F_3,s.Msg_F_4,s.Msg_F_5)) (λ_=>rfl) (λ_=>rfl)
structure ZAr where
 ID:Int
 Bond:Int
 Buyer:Int
 Seller:Int
 Price:Int
 Qty:Int
 Ask:Int
 Tick:Int
abbrev Z4:Cdc:=ZC7 ZAr [.i .i64,.i .i64,.i .i64,.i .i64,.i .i64,.i .i64,.i .i64,.i .i64] (λx=>⟨x.1,x.2.1,x.2.2.1,x.2.2.2.1,x.2.2.2.2.1,x.2.2.2.2.2.1,x.2.2.2.2.2.2.1,x.2.2.2.2.2.2.2⟩) (λs=>(s.ID,s.Bond,s.Buyer,s.Seller,s.Price,s.Qty,s.Ask,s.Tick)) (λ_=>rfl) (λ_=>rfl)
structure ZE where
 ID:Int
 Seq:Int
 Owner:Int
 Side:Int
 Price:Int
 Left:Int
abbrev ZK:Cdc:=ZC7 ZE [.i .i64,.i .i64,.i .i64,.i .i64,.i .i64,.i .i64] (λx=>⟨x.1,x.2.1,x.2.2.1,x.2.2.2.1,x.2.2.2.2.1,x.2.2.2.2.2⟩) (λs=>(s.ID,s.Seq,s.Owner,s.Side,s.Price,s.Left)) (λ_=>rfl) (λ_=>rfl)
structure Out where
 To:Int
 Msg_Kind:Int
 Msg_F_0:Int
 Msg_F_1:Int
 Msg_F_2:Int
 Msg_F_3:Int
 Msg_F_4:Int
 Msg_F_5:Int
abbrev ZCJ:Cdc:=ZC7 Out [.i .i64,.i .i64,.i .i64,.i .i64,.i .i64,.i .i64,.i .i64,.i .i64] (λx=>⟨x.1,x.2.1,x.2.2.1,x.2.2.2.1,x.2.2.2.2.1,x.2.2.2.2.2.1,x.2.2.2.2.2.2.1,x.2.2.2.2.2.2.2⟩) (λs=>(s.To,s.Msg_Kind,s.Msg_F_0,s.Msg_F_1,s.Msg_F_2,s.Msg_F_3,s.Msg_F_4,s.Msg_F_5)) (λ_=>rfl) (λ_=>rfl)
structure Act where
 Kind:Int
 Who:Int
 B:Sl
abbrev ZFB:Cdc:=ZC7 Act [.i .i64,.i .i64,.sl] (λx=>⟨x.1,x.2.1,x.2.2⟩) (λs=>(s.Kind,s.Who,s.B)) (λ_=>rfl) (λ_=>rfl)
structure ZBz where
 Sent:Sl
 Taken:Sl
 Venue:Option Addr
abbrev ZA5:Cdc:=ZC7 ZBz [.sl,.sl,.p] (λx=>⟨x.1,x.2.1,x.2.2⟩) (λs=>(s.Sent,s.Taken,s.Venue)) (λ_=>rfl) (λ_=>rfl)
structure Bond where
 Tick:Int
 Lot:Int
 Min:Int
 Max:Int
 Low:Int
 High:Int
 Halted:Bool
abbrev ZAB:Cdc:=ZC7 Bond [.i .i64,.i .i64,.i .i64,.i .i64,.i .i64,.i .i64,.b] (λx=>⟨x.1,x.2.1,x.2.2.1,x.2.2.2.1,x.2.2.2.2.1,x.2.2.2.2.2.1,x.2.2.2.2.2.2⟩) (λs=>(s.Tick,s.Lot,s.Min,s.Max,s.Low,s.High,s.Halted)) (λ_=>rfl) (λ_=>rfl)
structure ZAa where
 Role:Int
 Asks:Int
 Cap:Int
abbrev Z2:Cdc:=ZC7 ZAa [.i .i64,.i .u64,.i .i64] (λx=>⟨x.1,x.2.1,x.2.2⟩) (λs=>(s.Role,s.Asks,s.Cap)) (λ_=>rfl) (λ_=>rfl)
structure ZUv where
 rules_Bonds:Sl
 rules_Parties:Sl
 rules_Look:Int
 rules_Beat:Int
 now:Int
 books:Sl
 firm:Option Addr
 quotes:Option Addr
 asks:Option Addr
 due:Option Addr
 pos:Option Addr
 blot:Option Addr
 order:Int
 seq:Int
 quote:Int
 ask:Int
abbrev ZLX:Cdc:=ZC7 ZUv [.sl,.sl,.i .i64,.i .i64,.i .i64,.sl,.p,.p,.p,.p,.p,.p,.i .i64,.i .i64,.i .i64,.i .i64] (λx=>⟨x.1,x.2.1,x.2.2.1,x.2.2.2.1,x.2.2.2.2.1,x.2.2.2.2.2.1,x.2.2.2.2.2.2.1,x.2.2.2.2.2.2.2.1,x.2.2.2.2.2.2.2.2.1,x.2.2.2.2.2.2.2.2.2.1,x.2.2.2.2.2.2.2.2.2.2.1,x.2.2.2.2.2.2.2.2.2.2.2.1,x.2.2.2.2.2.2.2.2.2.2.2.2.1,x.2.2.2.2.2.2.2.2.2.2.2.2.2.1,x.2.2.2.2.2.2.2.2.2.2.2.2.2.2.1,x.2.2.2.2.2.2.2.2.2.2.2.2.2.2.2⟩) (λs=>(s.rules_Bonds,s.rules_Parties,s.rules_Look,s.rules_Beat,s.now,s.books,s.firm,s.quotes,s.asks,s.due,s.pos,s.blot,s.order,s.seq,s.quote,s.ask)) (λ_=>rfl) (λ_=>rfl)
structure ZTc where
 L:Sl
abbrev ZKG:Cdc:=ZC7 ZTc [.sl] (λx=>⟨x⟩) (λs=>s.L) (λ_=>rfl) (λ_=>rfl)
structure ZUp where
 L:Sl
abbrev ZKu:Cdc:=ZC7 ZUp [.sl] (λx=>⟨x⟩) (λs=>s.L) (λ_=>rfl) (λ_=>rfl)
structure ZZC where
 L:Sl
abbrev ZQz:Cdc:=ZC7 ZZC [.sl] (λx=>⟨x⟩) (λs=>s.L) (λ_=>rfl) (λ_=>rfl)
structure ZWl where
 L:Sl
abbrev ZNr:Cdc:=ZC7 ZWl [.sl] (λx=>⟨x⟩) (λs=>s.L) (λ_=>rfl) (λ_=>rfl)
structure ZXN where
 L:Sl
abbrev ZOF:Cdc:=ZC7 ZXN [.sl] (λx=>⟨x⟩) (λs=>s.L) (λ_=>rfl) (λ_=>rfl)
structure ZUO where
 l:Sl
abbrev ZKO:Cdc:=ZC7 ZUO [.sl] (λx=>⟨x⟩) (λs=>s.l) (λ_=>rfl) (λ_=>rfl)
structure ZPM where
 desk:Option Addr
 lines:Sl
abbrev ZHS:Cdc:=ZC7 ZPM [.p,.sl] (λx=>⟨x.1,x.2⟩) (λs=>(s.desk,s.lines)) (λ_=>rfl) (λ_=>rfl)
structure ZP where
 Seq:Int
 Msg_Kind:Int
 Msg_F_0:Int
 Msg_F_1:Int
 Msg_F_2:Int
 Msg_F_3:Int
 Msg_F_4:Int
 Msg_F_5:Int
abbrev ZQ:Cdc:=ZC7 ZP [.i .i64,.i .i64,.i .i64,.i .i64,.i .i64,.i .i64,.i .i64,.i .i64] (λx=>⟨x.1,x.2.1,x.2.2.1,x.2.2.2.1,x.2.2.2.2.1,x.2.2.2.2.2.1,x.2.2.2.2.2.2.1,x.2.2.2.2.2.2.2⟩) (λs=>(s.Seq,s.Msg_Kind,s.Msg_F_0,s.Msg_F_1,s.Msg_F_2,s.Msg_F_3,s.Msg_F_4,s.Msg_F_5)) (λ_=>rfl) (λ_=>rfl)
structure ZVf where
 l:Sl
 used:Sl
abbrev ZKU:Cdc:=ZC7 ZVf [.sl,.sl] (λx=>⟨x.1,x.2⟩) (λs=>(s.l,s.used)) (λ_=>rfl) (λ_=>rfl)
structure ZPZ where
 l:Sl
abbrev ZHo:Cdc:=ZC7 ZPZ [.sl] (λx=>⟨x⟩) (λs=>s.l) (λ_=>rfl) (λ_=>rfl)
structure ZUT where
 l:Sl
abbrev ZKt:Cdc:=ZC7 ZUT [.sl] (λx=>⟨x⟩) (λs=>s.l) (λ_=>rfl) (λ_=>rfl)
structure ZYs where
 l:Sl
abbrev ZSD:Cdc:=ZC7 ZYs [.sl] (λx=>⟨x⟩) (λs=>s.l) (λ_=>rfl) (λ_=>rfl)
structure ZZG where
 bonds:Sl
 cash:Sl
abbrev ZRj:Cdc:=ZC7 ZZG [.sl,.sl] (λx=>⟨x.1,x.2⟩) (λs=>(s.bonds,s.cash)) (λ_=>rfl) (λ_=>rfl)
structure ZUg where
 l:Sl
 head:Int
abbrev ZKD:Cdc:=ZC7 ZUg [.sl,.i .u64] (λx=>⟨x.1,x.2⟩) (λs=>(s.l,s.head)) (λ_=>rfl) (λ_=>rfl)
structure ZW1 where
 P:Sl
 U:Sl
abbrev ZOG:Cdc:=ZC7 ZW1 [.sl,.sl] (λx=>⟨x.1,x.2⟩) (λs=>(s.P,s.U)) (λ_=>rfl) (λ_=>rfl)
structure ZYW where
 B:Sl
 C:Sl
abbrev ZQ3:Cdc:=ZC7 ZYW [.sl,.sl] (λx=>⟨x.1,x.2⟩) (λs=>(s.B,s.C)) (λ_=>rfl) (λ_=>rfl)
structure ZUi where
 who:Int
 id:Int
 l:Sl
abbrev ZLT:Cdc:=ZC7 ZUi [.i .i64,.i .i64,.sl] (λx=>⟨x.1,x.2.1,x.2.2⟩) (λs=>(s.who,s.id,s.l)) (λ_=>rfl) (λ_=>rfl)
structure Due where
 Tick:Int
 Kind:Int
 ID:Int
abbrev ZBk:Cdc:=ZC7 Due [.i .i64,.i .i64,.i .i64] (λx=>⟨x.1,x.2.1,x.2.2⟩) (λs=>(s.Tick,s.Kind,s.ID)) (λ_=>rfl) (λ_=>rfl)
structure Za where
 ID:Int
 Ask:Int
 Dealer:Int
 Price:Int
 Expires:Int
 Live:Bool
abbrev ZS:Cdc:=ZC7 Za [.i .i64,.i .i64,.i .i64,.i .i64,.i .i64,.b] (λx=>⟨x.1,x.2.1,x.2.2.1,x.2.2.2.1,x.2.2.2.2.1,x.2.2.2.2.2⟩) (λs=>(s.ID,s.Ask,s.Dealer,s.Price,s.Expires,s.Live)) (λ_=>rfl) (λ_=>rfl)
structure ZTk where
 flow:Option Addr
 sess:Option Addr
 box:Option Addr
abbrev ZKH:Cdc:=ZC7 ZTk [.p,.p,.p] (λx=>⟨x.1,x.2.1,x.2.2⟩) (λs=>(s.flow,s.sess,s.box)) (λ_=>rfl) (λ_=>rfl)
structure ZUP where
 beat:Int
 up:Bool
 want:Int
 keep:Option Addr
 asked:Int
 sent:Int
 heard:Int
abbrev ZK4:Cdc:=ZC7 ZUP [.i .i64,.b,.i .i64,.p,.i .i64,.i .i64,.i .i64] (λx=>⟨x.1,x.2.1,x.2.2.1,x.2.2.2.1,x.2.2.2.2.1,x.2.2.2.2.2.1,x.2.2.2.2.2.2⟩) (λs=>(s.beat,s.up,s.want,s.keep,s.asked,s.sent,s.heard)) (λ_=>rfl) (λ_=>rfl)
structure ZUc where
 b:Sl
 lost:Int
abbrev ZLO:Cdc:=ZC7 ZUc [.sl,.i .i64] (λx=>⟨x.1,x.2⟩) (λs=>(s.b,s.lost)) (λ_=>rfl) (λ_=>rfl)
structure ZWg where
 c:Option Nat
 shut:Bool
abbrev ZNK:Cdc:=ZC7 ZWg [.c,.b] (λx=>⟨x.1,x.2⟩) (λs=>(s.c,s.shut)) (λ_=>rfl) (λ_=>rfl)
structure ZXM where
abbrev ZJj:Cdc:=ZC7 ZXM [] (λ_=>{}) (λ_=>()) (λ_=>rfl) (λ_=>rfl)
structure ZUa where
 l:Sl
 next:Int
abbrev ZLb:Cdc:=ZC7 ZUa [.sl,.i .i64] (λx=>⟨x.1,x.2⟩) (λs=>(s.l,s.next)) (λ_=>rfl) (λ_=>rfl)
structure ZQw where
abbrev ZIs:Cdc:=ZC7 ZQw [] (λ_=>{}) (λ_=>()) (λ_=>rfl) (λ_=>rfl)
structure ZOs where
 ID:Int
 Owner:Int
 Left:Int
abbrev ZII:Cdc:=ZC7 ZOs [.i .i64,.i .i64,.i .i64] (λx=>⟨x.1,x.2.1,x.2.2⟩) (λs=>(s.ID,s.Owner,s.Left)) (λ_=>rfl) (λ_=>rfl)
structure ZH5 where
 Maker:Int
 Taker:Int
 MakerParty:Int
 TakerParty:Int
 Price:Int
 Qty:Int
 Left:Int
abbrev ZDj:Cdc:=ZC7 ZH5 [.i .i64,.i .i64,.i .i64,.i .i64,.i .i64,.i .i64,.i .i64] (λx=>⟨x.1,x.2.1,x.2.2.1,x.2.2.2.1,x.2.2.2.2.1,x.2.2.2.2.2.1,x.2.2.2.2.2.2⟩) (λs=>(s.Maker,s.Taker,s.MakerParty,s.TakerParty,s.Price,s.Qty,s.Left)) (λ_=>rfl) (λ_=>rfl)
structure ZFC where
 Price:Int
 Qty:Int
abbrev ZCK:Cdc:=ZC7 ZFC [.i .i64,.i .i64] (λx=>⟨x.1,x.2⟩) (λs=>(s.Price,s.Qty)) (λ_=>rfl) (λ_=>rfl)
def ZMd:TypeId->Option Cdc
 | 1=>some (cF)
 | 2=>some (cI .i64)
 | 3=>some (cI .i64)
 | 4=>some (cB)
 | 5=>some (cI .u8)
 | 6=>some (cI .u8)
 | 9=>some (cS)
 | 10=>some (cS)
 | 11=>some (cS)
 | 12=>some (cI .u64)
 | 15=>some (cP)
 | 16=>some (cP)
 | 17=>some (cP)
 | 21=>some (cI .i32)
 | 22=>some (cSl)
 | 23=>some (cP)
 | 24=>some (cF)
 | 25=>some (cSl)
 | 26=>some (cSl)
 | 27=>some (ZAq)
 | 28=>some (ZAq)
 | 29=>some (cF)
 | 30=>some (cP)
 | 31=>some (cF)
 | 32=>some (cSl)
 | 33=>some (cF)
 | 34=>some (cSl)
 | 35=>some (cP)
 | 36=>some (cP)
 | 37=>some (cP)
 | 38=>some (cP)
 | 39=>some (cP)
 | 40=>some (cP)
 | 41=>some (cSl)
 | 42=>some (ZNk)
 | 43=>some (ZNk)
 | 44=>some (cSl)
 | 45=>some (cSl)
 | 46=>some (cSl)
 | 47=>some (cF)
 | 48=>some (cI .u64)
 | 49=>some (ZAb)
 | 50=>some (ZAb)
 | 51=>some (ZAl)
 | 52=>some (ZAl)
 | 54=>some (cF)
 | 55=>some (cP)
 | 56=>some (cF)
 | 57=>some (ZD5)
 | 58=>some (ZAn)
 | 59=>some (ZAn)
 | 60=>some (ZBe)
 | 61=>some (ZBe)
 | 62=>some (cF)
 | 63=>some (Z4)
 | 64=>some (Z4)
 | 65=>some (cF)
 | 66=>some (cF)
 | 67=>some (cF)
 | 68=>some (cF)
 | 69=>some (cP)
 | 70=>some (cF)
 | 71=>some (cSl)
 | 72=>some (cF)
 | 73=>some (ZK)
 | 74=>some (ZK)
 | 75=>some (cF)
 | 76=>some (cSl)
 | 77=>some (ZCJ)
 | 78=>some (ZCJ)
 | 79=>some (cF)
 | 80=>some (cSl)
 | 81=>some (cF)
 | 82=>some (cP)
 | 83=>some (cF)
 | 84=>some (cF)
 | 85=>some (cSl)
 | 86=>some (ZFB)
 | 87=>some (ZFB)
 | 88=>some (cF)
 | 89=>some (cF)
 | 90=>some (cF)
 | 91=>some (cF)
 | 92=>some (cF)
 | 93=>some (cF)
 | 94=>some (cSl)
 | 95=>some (cSl)
 | 96=>some (ZA5)
 | 97=>some (ZA5)
 | 98=>some (cF)
 | 99=>some (cF)
 | 100=>some (cF)
 | 101=>some (cP)
 | 102=>some (cF)
 | 103=>some (cF)
 | 104=>some (ZAB)
 | 105=>some (ZAB)
 | 106=>some (cF)
 | 107=>some (Z2)
 | 108=>some (Z2)
 | 109=>some (cP)
 | 110=>some (cF)
 | 111=>some (cP)
 | 112=>some (cF)
 | 113=>some (cP)
 | 114=>some (cF)
 | 115=>some (cP)
 | 116=>some (cF)
 | 117=>some (cP)
 | 118=>some (cF)
 | 119=>some (cSl)
 | 120=>some (ZLX)
 | 121=>some (ZLX)
 | 122=>some (cF)
 | 123=>some (cF)
 | 124=>some (cSl)
 | 125=>some (ZKG)
 | 126=>some (ZKG)
 | 127=>some (ZKu)
 | 128=>some (ZKu)
 | 129=>some (cSl)
 | 130=>some (ZQz)
 | 131=>some (ZQz)
 | 132=>some (cF)
 | 133=>some (ZNr)
 | 134=>some (ZNr)
 | 135=>some (ZOF)
 | 136=>some (ZOF)
 | 137=>some (cF)
 | 138=>some (cF)
 | 139=>some (cF)
 | 140=>some (cF)
 | 141=>some (cF)
 | 142=>some (cI .u64)
 | 143=>some (cF)
 | 144=>some (cSl)
 | 145=>some (cF)
 | 146=>some (ZKO)
 | 147=>some (ZKO)
 | 148=>some (cF)
 | 149=>some (cF)
 | 150=>some (cSl)
 | 151=>some (ZHS)
 | 152=>some (ZHS)
 | 153=>some (cP)
 | 154=>some (cF)
 | 155=>some (cF)
 | 156=>some (cF)
 | 157=>some (cF)
 | 158=>some (cF)
 | 159=>some (cF)
 | 160=>some (ZQ)
 | 161=>some (ZQ)
 | 162=>some (cSl)
 | 163=>some (cSl)
 | 164=>some (cF)
 | 165=>some (cSl)
 | 166=>some (cF)
 | 167=>some (cF)
 | 168=>some (cF)
 | 169=>some (ZKU)
 | 170=>some (ZKU)
 | 171=>some (ZHo)
 | 172=>some (ZHo)
 | 173=>some (ZKt)
 | 174=>some (ZKt)
 | 175=>some (ZSD)
 | 176=>some (ZSD)
 | 177=>some (cSl)
 | 178=>some (ZRj)
 | 179=>some (ZRj)
 | 180=>some (ZKD)
 | 181=>some (ZKD)
 | 182=>some (ZOG)
 | 183=>some (ZOG)
 | 184=>some (ZQ3)
 | 185=>some (ZQ3)
 | 186=>some (cF)
 | 187=>some (cF)
 | 188=>some (cF)
 | 189=>some (cP)
 | 190=>some (ZLT)
 | 191=>some (ZLT)
 | 192=>some (cI .i64)
 | 193=>some (cF)
 | 194=>some (cF)
 | 195=>some (cF)
 | 196=>some (ZBk)
 | 197=>some (ZBk)
 | 199=>some (cF)
 | 200=>some (cF)
 | 201=>some (cSl)
 | 203=>some (cF)
 | 204=>some (cF)
 | 205=>some (cF)
 | 206=>some (ZS)
 | 207=>some (ZS)
 | 208=>some (cF)
 | 209=>some (cF)
 | 210=>some (cF)
 | 211=>some (cF)
 | 212=>some (cF)
 | 213=>some (cF)
 | 214=>some (cF)
 | 215=>some (cF)
 | 216=>some (cP)
 | 217=>some (cF)
 | 218=>some (cP)
 | 219=>some (cF)
 | 220=>some (cP)
 | 221=>some (cF)
 | 222=>some (ZKH)
 | 223=>some (ZKH)
 | 225=>some (cF)
 | 226=>some (cF)
 | 228=>some (cF)
 | 229=>some (cF)
 | 230=>some (cF)
 | 231=>some (cF)
 | 233=>some (cF)
 | 234=>some (cM)
 | 235=>some (cF)
 | 236=>some (cF)
 | 237=>some (cF)
 | 238=>some (cF)
 | 239=>some (cF)
 | 240=>some (cF)
 | 241=>some (cF)
 | 242=>some (cF)
 | 243=>some (cF)
 | 244=>some (cF)
 | 245=>some (cF)
 | 246=>some (cF)
 | 247=>some (cF)
 | 249=>some (cF)
 | 250=>some (cF)
 | 251=>some (cF)
 | 252=>some (cF)
 | 253=>some (cF)
 | 254=>some (cF)
 | 255=>some (cF)
 | 256=>some (cF)
 | 257=>some (cF)
 | 258=>some (cF)
 | 259=>some (cF)
 | 260=>some (cF)
 | 261=>some (cF)
 | 262=>some (cF)
 | 263=>some (cF)
 | 264=>some (cI .i64)
 | 266=>some (cF)
 | 267=>some (cF)
 | 268=>some (cF)
 | 269=>some (cF)
 | 270=>some (cF)
 | 271=>some (cI .u32)
 | 272=>some (cF)
 | 273=>some (cP)
 | 274=>some (cF)
 | 275=>some (ZK4)
 | 276=>some (ZK4)
 | 277=>some (ZLO)
 | 278=>some (ZLO)
 | 279=>some (cC)
 | 280=>some (ZNK)
 | 281=>some (ZNK)
 | 282=>some (cF)
 | 283=>some (cF)
 | 285=>some (cF)
 | 286=>some (cF)
 | 287=>some (cF)
 | 288=>some (cF)
 | 289=>some (cF)
 | 291=>some (cF)
 | 292=>some (ZJj)
 | 293=>some (ZJj)
 | 296=>some (cF)
 | 298=>some (cF)
 | 299=>some (cF)
 | 300=>some (cF)
 | 301=>some (cF)
 | 302=>some (cF)
 | 303=>some (cF)
 | 304=>some (cF)
 | 306=>some (cF)
 | 307=>some (cF)
 | 309=>some (cF)
 | 311=>some (cF)
 | 312=>some (cF)
 | 313=>some (cF)
 | 314=>some (cF)
 | 315=>some (cF)
 | 316=>some (cF)
 | 317=>some (cF)
 | 318=>some (cF)
 | 319=>some (cF)
 | 320=>some (cF)
 | 321=>some (cF)
 | 322=>some (cF)
 | 323=>some (cF)
 | 324=>some (cP)
 | 326=>some (cF)
 | 327=>some (cF)
 | 328=>some (cF)
 | 329=>some (cF)
 | 330=>some (cF)
 | 331=>some (cF)
 | 332=>some (cSl)
 | 333=>some (cSl)
 | 335=>some (cF)
 | 336=>some (cF)
 | 338=>some (cF)
 | 339=>some (cF)
 | 340=>some (cF)
 | 342=>some (cF)
 | 343=>some (cF)
 | 344=>some (cF)
 | 346=>some (cF)
 | 347=>some (cF)
 | 348=>some (cI .u64)
 | 349=>some (cF)
 | 350=>some (cF)
 | 351=>some (cF)
 | 352=>some (cP)
 | 353=>some (cF)
 | 354=>some (ZLb)
 | 355=>some (ZLb)
 | 356=>some (cF)
 | 357=>some (cF)
 | 359=>some (cF)
 | 361=>some (cF)
 | 362=>some (cF)
 | 363=>some (cF)
 | 364=>some (cF)
 | 365=>some (cF)
 | 366=>some (cF)
 | 368=>some (cF)
 | 369=>some (ZIs)
 | 371=>some (cF)
 | 372=>some (cF)
 | 373=>some (cF)
 | 374=>some (cF)
 | 375=>some (cP)
 | 376=>some (cF)
 | 377=>some (cF)
 | 378=>some (cF)
 | 379=>some (cF)
 | 380=>some (cF)
 | 381=>some (cF)
 | 382=>some (cF)
 | 383=>some (cF)
 | 384=>some (cF)
 | 385=>some (cF)
 | 386=>some (cF)
 | 387=>some (cF)
 | 388=>some (cF)
 | 389=>some (cF)
 | 390=>some (cF)
 | 391=>some (cF)
 | 392=>some (cF)
 | 393=>some (ZII)
 | 394=>some (ZII)
 | 395=>some (ZDj)
 | 396=>some (ZDj)
 | 397=>some (cF)
 | 398=>some (cF)
 | 400=>some (cF)
 | 401=>some (cF)
 | 402=>some (cF)
 | 403=>some (cP)
 | 405=>some (cF)
 | 406=>some (cF)
 | 407=>some (cF)
 | 408=>some (cF)
 | 409=>some (cF)
 | 410=>some (cF)
 | 411=>some (cF)
 | 413=>some (cF)
 | 414=>some (cF)
 | 415=>some (cF)
 | 416=>some (cF)
 | 417=>some (cF)
 | 418=>some (cF)
 | 419=>some (cF)
 | 420=>some (cF)
 | 421=>some (cF)
 | 422=>some (cF)
 | 423=>some (cF)
 | 424=>some (cF)
 | 425=>some (cF)
 | 426=>some (cF)
 | 427=>some (cF)
 | 428=>some (cF)
 | 429=>some (cF)
 | 430=>some (cF)
 | 431=>some (cF)
 | 432=>some (cF)
 | 433=>some (cF)
 | 434=>some (cF)
 | 435=>some (cP)
 | 436=>some (cF)
 | 437=>some (cF)
 | 438=>some (cSl)
 | 439=>some (cF)
 | 440=>some (ZCK)
 | 441=>some (ZCK)
 | 443=>some (cF)
 | 444=>some (cF)
 | 445=>some (cF)
 | 446=>some (cF)
 | 447=>some (cF)
 | 448=>some (cF)
 | 449=>some (cF)
 | 450=>some (cF)
 | 451=>some (cF)
 | 452=>some (cF)
 | 453=>some (cF)
 | 454=>some (cF)
 | 460=>some (cI .u8)
 | 461=>some (cI .u8)
 | 462=>some (cF)
 | 463=>some (cP)
 | 464=>some (cI .i32)
 | 465=>some (cI .i32)
 | 468=>some (cF)
 | 469=>some (cF)
 | 470=>some (cF)
 | _=>none
def ZLt:FuncId->Option Cdc
 | 0=>some (ZW [])
 | 1=>some (ZW [])
 | 2=>some (ZW [])
 | 3=>some (cB)
 | 4=>some (cB)
 | 5=>some (cB)
 | 6=>some (cB)
 | 7=>some (cB)
 | 8=>some (cP)
 | 9=>some (ZAq)
 | 10=>some (cP)
 | 11=>some (cSl)
 | 12=>some (cSl)
 | 13=>some (ZW [ZAl,cB])
 | 14=>some (cSl)
 | 15=>some (ZW [])
 | 16=>some (ZW [ZAl,cB])
 | 17=>some (cI .i64)
 | 18=>some (cB)
 | 19=>some (cP)
 | 20=>some (cSl)
 | 21=>some (cB)
 | 22=>some (ZW [])
 | 23=>some (cB)
 | 24=>some (cP)
 | 25=>some (cB)
 | 26=>some (cB)
 | 27=>some (cP)
 | 28=>some (cB)
 | 29=>some (cSl)
 | 30=>some (ZFB)
 | 31=>some (ZA5)
 | 32=>some (cB)
 | 33=>some (cP)
 | 34=>some (cSl)
 | 35=>some (cSl)
 | 36=>some (cP)
 | 37=>some (cP)
 | 38=>some (cP)
 | 39=>some (cP)
 | 40=>some (cP)
 | 41=>some (cP)
 | 42=>some (cP)
 | 43=>some (cP)
 | 44=>some (cSl)
 | 45=>some (cSl)
 | 46=>some (cI .i64)
 | 47=>some (cSl)
 | 48=>some (ZW [ZAl,cB])
 | 49=>some (cSl)
 | 50=>some (cSl)
 | 51=>some (cSl)
 | 52=>some (cSl)
 | 53=>some (cSl)
 | 54=>some (cSl)
 | 55=>some (cSl)
 | 56=>some (cB)
 | 57=>some (ZW [])
 | 58=>some (cI .i64)
 | 59=>some (cB)
 | 60=>some (cP)
 | 61=>some (ZW [])
 | 62=>some (cB)
 | 63=>some (ZW [])
 | 64=>some (cB)
 | 65=>some (ZW [])
 | 66=>some (cB)
 | 67=>some (cI .i64)
 | 68=>some (cSl)
 | 69=>some (ZAn)
 | 70=>some (cSl)
 | 71=>some (cSl)
 | 72=>some (cSl)
 | 73=>some (cB)
 | 74=>some (cB)
 | 75=>some (cSl)
 | 76=>some (cSl)
 | 77=>some (cB)
 | 78=>some (cI .i64)
 | 79=>some (ZCJ)
 | 80=>some (cSl)
 | 81=>some (ZW [ZAb,cB])
 | 82=>some (cB)
 | 83=>some (ZW [])
 | 84=>some (ZW [])
 | 85=>some (ZW [ZK,cB])
 | 86=>some (ZW [])
 | 87=>some (cSl)
 | 88=>some (cB)
 | 89=>some (cB)
 | 90=>some (cI .i64)
 | 91=>some (ZW [])
 | 92=>some (cSl)
 | 93=>some (ZW [ZAb,cB])
 | 94=>some (ZW [])
 | 95=>some (ZW [])
 | 96=>some (cB)
 | 97=>some (ZW [ZK,cB])
 | 98=>some (cSl)
 | 99=>some (cB)
 | 100=>some (ZW [])
 | 101=>some (cI .i64)
 | 102=>some (cB)
 | 103=>some (cI .i64)
 | 104=>some (cP)
 | 105=>some (cP)
 | 106=>some (cP)
 | 107=>some (cB)
 | 108=>some (ZW [cSl,cB])
 | 109=>some (cB)
 | 110=>some (cSl)
 | 111=>some (cB)
 | 112=>some (ZW [cSl,cB])
 | 113=>some (cSl)
 | 114=>some (cSl)
 | 115=>some (cSl)
 | 116=>some (ZW [ZQ,cI .i64])
 | 117=>some (cB)
 | 118=>some (cB)
 | 119=>some (cB)
 | 120=>some (cI .u64)
 | 121=>some (cB)
 | 122=>some (cB)
 | 123=>some (cB)
 | 124=>some (cB)
 | 125=>some (cB)
 | 126=>some (cB)
 | 127=>some (cB)
 | 128=>some (cB)
 | 129=>some (cB)
 | 130=>some (cB)
 | 131=>some (cI .i64)
 | 132=>some (cI .i64)
 | 133=>some (cI .i64)
 | 134=>some (cI .i64)
 | 135=>some (cI .i64)
 | 136=>some (cI .i64)
 | 137=>some (cI .i64)
 | 138=>some (cSl)
 | 139=>some (cSl)
 | 140=>some (ZW [cI .i64,cB])
 | 141=>some (ZW [cI .i64,cB])
 | 142=>some (cI .i64)
 | 143=>some (cI .i64)
 | 144=>some (ZW [])
 | 145=>some (cI .i64)
 | 146=>some (cSl)
 | 147=>some (cSl)
 | 148=>some (cB)
 | 149=>some (cI .i64)
 | 150=>some (cB)
 | 151=>some (cI .i64)
 | 152=>some (cI .i64)
 | 153=>some (cI .i64)
 | 154=>some (cI .i64)
 | 155=>some (cI .i64)
 | 156=>some (cI .i64)
 | 157=>some (cI .i64)
 | 158=>some (cI .i64)
 | 159=>some (cI .i64)
 | 160=>some (cI .i64)
 | 161=>some (cI .i64)
 | 162=>some (cI .i64)
 | 163=>some (cI .i64)
 | 164=>some (cI .i64)
 | 165=>some (ZW [])
 | 166=>some (cI .i64)
 | 167=>some (cI .i64)
 | 168=>some (cI .i64)
 | 169=>some (cSl)
 | 170=>some (ZW [])
 | 171=>some (ZW [])
 | 172=>some (ZW [])
 | 173=>some (ZW [cI .i64,cI .i64])
 | 174=>some (ZW [])
 | 175=>some (cB)
 | 176=>some (cI .i64)
 | 177=>some (ZW [cI .i64,cB])
 | 178=>some (cI .i64)
 | 179=>some (cI .i64)
 | 180=>some (cB)
 | 181=>some (cP)
 | 182=>some (ZW [cSl,cB])
 | 183=>some (cB)
 | 184=>some (ZW [cSl,ZAn,cB,cB])
 | 185=>some (cB)
 | 186=>some (cI .u32)
 | 187=>some (cSl)
 | 188=>some (ZW [cSl,cB])
 | 189=>some (cB)
 | 190=>some (ZW [cSl,cI .i64,cB])
 | 191=>some (ZW [])
 | 192=>some (ZW [cI .i64,cSl])
 | 193=>some (cI .i64)
 | 194=>some (ZW [cSl,cI .i64])
 | 195=>some (cB)
 | 196=>some (cI .i64)
 | 197=>some (cI .i64)
 | 198=>some (cB)
 | 199=>some (cI .i64)
 | 200=>some (cI .i64)
 | 201=>some (cI .i64)
 | 202=>some (cB)
 | 203=>some (ZW [ZK,cB])
 | 204=>some (cI .i64)
 | 205=>some (cI .i64)
 | 206=>some (cI .i64)
 | 207=>some (cB)
 | 208=>some (ZW [cI .i64,cI .i64])
 | 209=>some (cB)
 | 210=>some (ZW [ZS,cB])
 | 211=>some (ZW [ZAb,cI .i64])
 | 212=>some (cI .i64)
 | 213=>some (ZW [ZS,cB])
 | 214=>some (cSl)
 | 215=>some (cI .i64)
 | 216=>some (cI .i64)
 | 217=>some (ZW [])
 | 218=>some (cB)
 | 219=>some (cI .i64)
 | 220=>some (cI .i64)
 | 221=>some (cI .i64)
 | 222=>some (ZW [cI .i64,cB])
 | 223=>some (cI .i64)
 | 224=>some (ZW [cI .i64,cB])
 | 225=>some (cI .i64)
 | 226=>some (ZW [cP,cI .i64])
 | 227=>some (cSl)
 | 228=>some (cI .i64)
 | 229=>some (cB)
 | 230=>some (cI .i64)
 | 231=>some (cB)
 | 232=>some (cI .i64)
 | 233=>some (cI .i64)
 | 234=>some (cI .i64)
 | 235=>some (cI .i64)
 | 236=>some (ZW [cSl,cSl,cI .i64,cI .i64])
 | 237=>some (ZW [])
 | 238=>some (ZW [ZK,cI .i64])
 | 239=>some (cI .i64)
 | 240=>some (cI .i64)
 | 241=>some (cI .i64)
 | 242=>some (cB)
 | 243=>some (cI .i64)
 | 244=>some (ZW [cI .i64,cI .i64])
 | 245=>some (ZW [ZS,cB])
 | 246=>some (cI .i64)
 | 247=>some (cI .i64)
 | 248=>some (cI .i64)
 | 249=>some (cI .i64)
 | 250=>some (ZW [ZS,cB])
 | 251=>some (cSl)
 | 252=>some (ZW [ZAb,ZS,cI .i64])
 | 253=>some (cI .i64)
 | 254=>some (ZW [])
 | 255=>some (cSl)
 | 256=>some (ZW [])
 | 257=>some (cI .u64)
 | 258=>some (cI .u64)
 | 259=>some (cI .i64)
 | 260=>some (cI .i64)
 | 261=>some (ZQ)
 | 262=>some (ZW [cSl,cB])
 | 263=>some (cSl)
 | 264=>some (cB)
 | 265=>some (ZW [cSl,cB])
 | 266=>some (ZW [cSl,ZAn,cB])
 | 267=>some (ZW [ZQ,cB])
 | 268=>some (cI .u32)
 | 269=>some (cSl)
 | 270=>some (cB)
 | 271=>some (cSl)
 | 272=>some (cI .u32)
 | 273=>some (cSl)
 | 274=>some (ZW [cI .i64,cI .i64,cB])
 | 275=>some (ZW [])
 | 276=>some (ZW [cI .i64,cSl])
 | 277=>some (cI .i64)
 | 278=>some (cI .i64)
 | 279=>some (cI .i64)
 | 280=>some (cI .i64)
 | 281=>some (cI .i64)
 | 282=>some (cSl)
 | 283=>some (ZW [cI .i64,cB])
 | 284=>some (cI .i64)
 | 285=>some (cSl)
 | 286=>some (cI .i64)
 | 287=>some (cI .i64)
 | 288=>some (cB)
 | 289=>some (cB)
 | 290=>some (cI .i64)
 | 291=>some (ZW [cI .i64,cI .i64])
 | 292=>some (cI .i64)
 | 293=>some (cSl)
 | 294=>some (Z4)
 | 295=>some (cB)
 | 296=>some (cI .i64)
 | 297=>some (cSl)
 | 298=>some (cB)
 | 299=>some (cSl)
 | 300=>some (cB)
 | 301=>some (cI .i64)
 | 302=>some (ZW [ZK,cB])
 | 303=>some (cI .i64)
 | 304=>some (ZW [ZK,cB])
 | 305=>some (cI .i64)
 | 306=>some (cB)
 | 307=>some (cI .i64)
 | 308=>some (ZW [cI .i64,cB])
 | 309=>some (ZW [cI .i64,cB])
 | 310=>some (cI .i64)
 | 311=>some (cSl)
 | 312=>some (Z4)
 | 313=>some (ZW [cI .i64,cI .i64])
 | 314=>some (cSl)
 | 315=>some (cSl)
 | 316=>some (ZW [cSl,cB])
 | 317=>some (cSl)
 | 318=>some (cB)
 | 319=>some (ZQ)
 | 320=>some (cI .u64)
 | 321=>some (cI .u32)
 | 322=>some (cI .i64)
 | 323=>some (ZW [cSl,cSl,cI .i64,cI .i64])
 | 324=>some (cB)
 | 325=>some (ZW [])
 | 326=>some (cI .i64)
 | 327=>some (cI .i64)
 | 328=>some (cB)
 | 329=>some (ZW [])
 | 330=>some (cI .i64)
 | 331=>some (ZW [ZAl,cB])
 | 332=>some (ZW [ZAl,cB])
 | 333=>some (cI .i64)
 | 334=>some (ZW [cI .i64,cB])
 | 335=>some (ZW [cI .i64,cB])
 | 336=>some (cB)
 | 337=>some (ZW [cI .i64,cB])
 | 338=>some (ZCJ)
 | 339=>some (cI .u64)
 | 340=>some (cSl)
 | 341=>some (cB)
 | 342=>some (ZW [])
 | 343=>some (cI .i64)
 | 344=>some (cB)
 | 345=>some (cI .i64)
 | 346=>some (cB)
 | 347=>some (cB)
 | 348=>some (ZW [cI .i64,cB])
 | 349=>some (cSl)
 | 350=>some (cI .u64)
 | 351=>some (cSl)
 | 352=>some (cSl)
 | 353=>some (cI .i64)
 | 354=>some (cSl)
 | 355=>some (ZDj)
 | 356=>some (cB)
 | 357=>some (cI .i64)
 | 358=>some (ZW [])
 | 359=>some (cB)
 | 360=>some (ZW [])
 | 361=>some (cI .i64)
 | 362=>some (cSl)
 | 363=>some (ZW [ZAl,cB])
 | 364=>some (ZW [cI .u64,cI .u64])
 | 365=>some (cI .i64)
 | 366=>some (ZW [])
 | 367=>some (cB)
 | 368=>some (cB)
 | 369=>some (cI .i64)
 | 370=>some (cI .i64)
 | 371=>some (cB)
 | 372=>some (cB)
 | 373=>some (cB)
 | 374=>some (cB)
 | 375=>some (cB)
 | 376=>some (ZW [])
 | 377=>some (ZW [])
 | 378=>some (ZW [cI .u64,cI .u64])
 | 379=>some (cB)
 | 380=>some (ZW [])
 | 381=>some (cB)
 | 382=>some (cB)
 | 383=>some (cS)
 | 384=>some (ZW [])
 | 385=>some (cS)
 | 386=>some (ZW [])
 | 387=>some (cS)
 | 388=>some (ZW [])
 | 389=>some (cS)
 | 390=>some (ZW [])
 | 391=>some (cS)
 | 392=>some (ZW [])
 | 393=>some (cS)
 | 394=>some (ZW [])
 | 395=>some (cI .i64)
 | 396=>some (cS)
 | 397=>some (ZW [])
 | 398=>some (cI .u64)
 | 399=>some (cI .i64)
 | 400=>some (ZW [cI .i64,cB])
 | 401=>some (cI .i64)
 | 402=>some (cI .u64)
 | 403=>some (cI .i64)
 | 404=>some (cI .i64)
 | 405=>some (cI .i64)
 | 406=>some (cI .u64)
 | 407=>some (cS)
 | 408=>some (cI .i64)
 | 409=>some (ZW [])
 | 410=>some (cI .i64)
 | 411=>some (cS)
 | _=>none
def eqL:List Nat:=[2,3,4,5,6,9,10,11,12,21,48,49,50,51,52,57,58,59,60,61,63,64,73,74,77,78,104,105,107,108,142,160,161,192,196,197,206,207,264,271,292,293,348,369,393,394,395,396,440,441,460,461,464,465]
noncomputable abbrev TP:Program:=Tryz.prog
theorem ZDd:ZPc TP=true:=by kernel_rfl
theorem ZFh:Nat.ble 20 Tryz.prog.depth=true:=by kernel_rfl
theorem ZFi:eqL.all (ZVj TP 20)=true:=by kernel_rfl
theorem ZFr:Tryz.prog.follows .mixedOrders=true:=by kernel_rfl
def mkA (prom:Nat) (refs:List (Nat×Nat)) (dyn:Nat) (bcd:Nat->Option Cdc):Ann:={prom:=prom,refs:=refs,dyn:=dyn,bcd:=bcd,eqs:=ZCW eqL,cdc:=ZMd,res:=ZLt,pure:=ZCW [193],pan:=ZCW [192,276]}
def s0 (a:An):An:=.seq (.reg []) a
def bc:List (Nat×Cdc)->Nat->Option Cdc
 | [],_=>none
 | x::l,k=>bif Nat.beq k x.1 then some x.2 else bc l k
def rg (l:List Nat):An:=.reg (l.map λi=>(i,[]))
abbrev r0:An:=.reg []
abbrev rX:An:=.regX
abbrev lf:An:=.leaf
abbrev sq (a b:An):An:=.seq a b
abbrev cn (a b:An):An:=.cond a b
abbrev bk (a:An):An:=.block a
set_option maxRecDepth 20000
theorem cc {f:Nat} (A:Ann) (an:An) {args:List Value} {rc:Cdc} {h:Hp} {Q:rc.T->Hp->Prop} {F:Prop} (hk:F) (hg:ZYu A=true:=by kernel_rfl) (he:A.eqs=ZCW eqL:=by rfl) (e:fnD A TP f an rc args h Q=F:=by kernel_rfl):ZA TP f args rc h Q:=
 ZXJ (ZDi ZDd ZFh ZFi he hg) ZFr e hk
end Go.Proofs.YtkmniidiifpdgaaGreat
set_option maxRecDepth 20000
namespace Go.Proofs.YtkmniidiifpdgaaGreat
open Go.Eng
def a106:Ann:=mkA 0 [] 0 (bc [])
def n106:An:=(s0 (sq (.join [(8,false,cB)] 504 r0 (cn (s0 lf) lf)) (s0 lf)))
def F106 (p0:Int) (h:Hp) (Q:Option Addr->Hp->Prop):Prop:=ZY (λ(t1:Bool) h1=>ZB t1 (Q none h1) (ZRz p0 24 (ZM (Obj.chan p0.toNat ⟨[]⟩ false 0 0 false) h1 λk1 h2=>ZM (Obj.cells ⟨[.chan (some k1),.bool false]⟩ 281) h2 λk2 h3=>Q (some ⟨k2,0,none⟩) h3))) λ(J1:Bool->Hp->Prop)=>ZB (decide (p0<1)) (J1 true h) (J1 (decide (p0>256)) h)
theorem c106 {p0 h Q} (hk:F106 p0 h Q):ZA TP 106 [.int .i64 p0] (cP) h Q:=cc a106 n106 hk
def a264:Ann:=mkA 0 [] 0 (bc [])
def n264:An:=(s0 (sq (.join [(12,false,cB)] 8160 r0 (cn (s0 lf) lf)) (sq (s0 r0) (s0 (bk (cn (s0 lf) (s0 lf)))))))
def F264 (p0:Option Addr) (p1:Sl) (h:Hp) (Q:Bool->Hp->Prop):Prop:=ZY (λ(t1:Bool) h1=>ZB t1 (Q false h1) (ZR p0 λa1=>ZC cC (a1.add 0) h1 λ(p1_1:Option Nat)=>ZA TP 273 [.slice p1.a p1.len p1.cap] cSl h1 λ(s1:Sl) h2=>ZYO p1_1 (.slice s1.a s1.len s1.cap) h2 (Q false h2) λh3=>Q true h3)) λ(J1:Bool->Hp->Prop)=>ZB p0.isNone (J1 true h) (ZR p0 λa2=>ZC cB ⟨a2.block,a2.off+1,none⟩ h λ(t2:Bool)=>J1 t2 h)
theorem c264 {p0 p1 h Q} (hk:F264 p0 p1 h Q):ZA TP 264 [.pointer p0,.slice p1.a p1.len p1.cap] (cB) h Q:=cc a264 n264 hk
def a188:Ann:=mkA 0 [] 0 (bc [])
def n188:An:=(s0 (sq (s0 (cn (s0 lf) lf)) (s0 (s0 (bk (cn (s0 (s0 lf)) (s0 lf)))))))
def F188 (p0:Option Addr) (h:Hp) (Q:Sl×Bool->Hp->Prop):Prop:=ZB p0.isNone (Q (⟨none,0,0⟩,false) h) (ZR p0 λa1=>ZC cC (a1.add 0) h λ(p1:Option Nat)=>ZYH cSl p1 h (Q (⟨none,0,0⟩,false) h) λ(s1:Sl) h1=>Q (s1,true) h1)
theorem c188 {p0 h Q} (hk:F188 p0 h Q):ZA TP 188 [.pointer p0] (ZW [cSl,cB]) h Q:=cc a188 n188 hk
def a181:Ann:=mkA 0 [] 0 (bc [])
def n181:An:=(s0 (s0 lf))
def F181  (h:Hp) (Q:Option Addr->Hp->Prop):Prop:=ZM (Obj.cells ⟨[.slice none 0 0,.int .i64 1]⟩ 355) h λk1 h1=>Q (some ⟨k1,0,none⟩) h1
theorem c181  {h:Hp} {Q:Option Addr->Hp->Prop} (hk:F181  h Q):ZA TP 181 [] (cP) h Q:=cc a181 n181 hk
def a319:Ann:=mkA 56 [] 0 (bc [(3,ZAn),(4,ZQ),(5,ZQ)])
def n319:An:=(s0 (sq (s0 (cn (s0 lf) lf)) (sq (rg [0,1,2,4,6,3,5,7]) (s0 (sq (rg [0,1,2,3,5,4,6,7,8,9,10]) (.join [] 70364449210368 (s0 (cn r0 lf)) (s0 lf)))))))
def F319 (p0:Option Addr) (p1:Msg) (h:Hp) (Q:ZP->Hp->Prop):Prop:=ZB p0.isNone (Q {Seq:=0,Msg_Kind:=0,Msg_F_0:=0,Msg_F_1:=0,Msg_F_2:=0,Msg_F_3:=0,Msg_F_4:=0,Msg_F_5:=0:ZP} h) (ZR p0 λa1=>ZC (cI IntKind.i64) ⟨a1.block,a1.off+1,none⟩ h λ(n1:Int)=>ZR p0 λa2=>ZC (cI IntKind.i64) ⟨a2.block,a2.off+1,none⟩ h λ(n2:Int)=>ZR p0 λa3=>ZV (cI IntKind.i64) ⟨a3.block,a3.off+1,none⟩ (IntKind.i64.wrap (n2+1)) h λh1=>ZR p0 λa4=>ZC cSl (a4.add 0) h1 λ(s1:Sl)=>ZM (Obj.cells ⟨[.int .i64 n1,.int .i64 p1.Kind,.int .i64 p1.F_0,.int .i64 p1.F_1,.int .i64 p1.F_2,.int .i64 p1.F_3,.int .i64 p1.F_4,.int .i64 p1.F_5]⟩ 161) h1 λk1 h2=>ZX ZQ 161 64 s1.a s1.len s1.cap (some ⟨k1,0,none⟩) 1 h2 λ(p1_1:Option Addr) (k2 k3:Nat) h3=>ZR p0 λa5=>ZV cSl (a5.add 0) ⟨p1_1,k2,k3⟩ h3 λh4=>ZY (λu1 h5=>Q {Seq:=n1,Msg_Kind:=p1.Kind,Msg_F_0:=p1.F_0,Msg_F_1:=p1.F_1,Msg_F_2:=p1.F_2,Msg_F_3:=p1.F_3,Msg_F_4:=p1.F_4,Msg_F_5:=p1.F_5:ZP} h5) λ(J1:PUnit->Hp->Prop)=>ZR p0 λa6=>ZC cSl (a6.add 0) h4 λ(s2:Sl)=>ZB (decide ((↑s2.len:Int)>64)) (ZR p0 λa7=>ZC cSl (a7.add 0) h4 λ(s3:Sl)=>ZA TP 352 [.slice s3.a s3.len s3.cap,.int .i64 0,.int .i64 1] cSl h4 λ(s4:Sl) h6=>ZR p0 λa8=>ZV cSl (a8.add 0) s4 h6 λh7=>J1 PUnit.unit h7) (J1 PUnit.unit h4))
theorem c319 {p0 p1 h Q} (hk:F319 p0 p1 h Q):ZA TP 319 [.pointer p0,ZAn.enc p1] (ZQ) h Q:=cc a319 n319 hk
def a316:Ann:=mkA 0 [] 0 (bc [])
def n316:An:=(s0 (sq (.join [(33,false,cB)] 17179869120 (rg [0,1,2,3,4,5,6,7,8,9,10,11,12,13,14,15,16,17,19,21,22,23,18,20,24,25,26,27]) (cn (s0 lf) lf)) (sq (rg [0,1,2,4,5,6,9,10,11,13,3,7,8,12,14,15,16,17,18,19]) lf)))
def F316 (p0:Option Addr) (p1:Int) (h:Hp) (Q:Sl×Bool->Hp->Prop):Prop:=ZY (λ(t1:Bool) h1=>ZB t1 (Q (⟨none,0,0⟩,false) h1) (ZR p0 λa1=>ZR p0 λa2=>ZR p0 λa3=>ZC cSl (a1.add 0) h1 λ(s1:Sl)=>ZC cSl (a2.add 0) h1 λ(s2:Sl)=>ZC (cI IntKind.i64) ⟨a3.block,a3.off+1,none⟩ h1 λ(n1:Int)=>ZAI s1.len s1.cap (some (IntKind.i64.wrap ((↑s2.len:Int)-IntKind.i64.wrap (n1-p1)))) none λ(k1 k2:Nat)=>ZA TP 351 [.slice (Zm s1.a k1 s1.cap 8) (k2-k1) (s1.cap-k1)] cSl h1 λ(s3:Sl) h2=>Q (s3,true) h2)) λ(J1:Bool->Hp->Prop)=>ZB p0.isNone (J1 true h) (ZB (decide (p1<1)) (J1 true h) (ZR p0 λa4=>ZC (cI IntKind.i64) ⟨a4.block,a4.off+1,none⟩ h λ(n2:Int)=>ZB (decide (p1>n2)) (J1 true h) (ZR p0 λa5=>ZR p0 λa6=>ZC (cI IntKind.i64) ⟨a5.block,a5.off+1,none⟩ h λ(n3:Int)=>ZC cSl (a6.add 0) h λ(s4:Sl)=>J1 (decide (IntKind.i64.wrap (n3-p1)>(↑s4.len:Int))) h)))
theorem c316 {p0 p1 h Q} (hk:F316 p0 p1 h Q):ZA TP 316 [.pointer p0,.int .i64 p1] (ZW [cSl,cB]) h Q:=cc a316 n316 hk
def a315:Ann:=mkA 0 [] 0 (bc [])
def n315:An:=(s0 (s0 (sq (s0 (bk (.loop [(3,false,cSl),(9,false,cI .i64)] 2147483240 (s0 (sq (cn lf lf) (sq (bk (s0 (s0 (sq (bk (.loop [(3,false,cSl),(6,false,cI .u64)] 33521736 (sq (s0 (cn lf lf)) (bk (s0 r0))))) r0)))) r0)))))) (s0 lf))))
def F315 (p0:Sl) (h:Hp) (Q:Sl->Hp->Prop):Prop:=Zj ({a:=none,len:=0,cap:=0:Sl},0) h λ(J1:Sl×Int->Hp->Prop) (z1:Sl×Int) h1=>ZB (decide (z1.snd<(↑p0.len:Int))) (Zl p0.a p0.len z1.snd λa1=>ZC (cI IntKind.i64) (a1.add (z1.snd.toNat*1)) h1 λ(n1:Int)=>ZA TP 350 [.int .i64 n1] (cI IntKind.u64) h1 λ(n2:Int) h2=>Zj (z1.fst,n2) h2 λ(J2:Sl×Int->Hp->Prop) (z2:Sl×Int) h3=>ZB (decide (z2.snd>=128)) (ZM (Obj.cells ⟨[.int .u8 (orI IntKind.u8 (IntKind.u8.wrap z2.snd) 128)]⟩ 5) h3 λk1 h4=>ZX (cI IntKind.u8) 5 1 z2.fst.a z2.fst.len z2.fst.cap (some ⟨k1,0,none⟩) 1 h4 λ(p1:Option Addr) (k2 k3:Nat) h5=>(0:Int)<=7/\J2 (⟨p1,k2,k3⟩,ZBT IntKind.u64 z2.snd 7) h5) (ZM (Obj.cells ⟨[.int .u8 (IntKind.u8.wrap z2.snd)]⟩ 5) h3 λk4 h6=>ZX (cI IntKind.u8) 5 1 z2.fst.a z2.fst.len z2.fst.cap (some ⟨k4,0,none⟩) 1 h6 λ(p2:Option Addr) (k5 k6:Nat) h7=>J1 (⟨p2,k5,k6⟩,IntKind.i64.wrap (z1.snd+1)) h7)) (Q z1.fst h1)
theorem c315 {p0 h Q} (hk:F315 p0 h Q):ZA TP 315 [.slice p0.a p0.len p0.cap] (cSl) h Q:=cc a315 n315 hk
def a194:Ann:=mkA 0 [] 0 (bc [])
def n194:An:=(.join [] 7680 (s0 (cn rX lf)) (sq (bk (.loop [(0,false,cSl)] 134209729 (sq (s0 (cn lf lf)) (bk (sq rX r0))))) (.join [] 4160749568 (s0 (cn rX lf)) (s0 lf))))
def F194 (p0:Sl) (p1:Int) (h:Hp) (Q:Sl×Int->Hp->Prop):Prop:=ZM (Obj.cells ⟨[.slice none 0 0]⟩ 76) h λk1 h1=>ZM (Obj.cells ⟨[.int .i64 0]⟩ 192) h1 λk2 h2=>ZY (λu1 h3=>Zj p0 h3 λ(J1:Sl->Hp->Prop) (s1:Sl) h4=>ZC cSl ⟨k1,0,none⟩ h4 λ(s2:Sl)=>ZB (decide ((↑s2.len:Int)<p1)) (ZEu TP 276 [.slice s1.a s1.len s1.cap] (ZW [cI IntKind.i64,cSl]) h4 (λ(z1:Int×Sl) h5=>ZC cSl ⟨k1,0,none⟩ h5 λ(s3:Sl)=>ZM (Obj.cells ⟨[.int .i64 z1.fst]⟩ 2) h5 λk3 h6=>ZX (cI IntKind.i64) 2 8 s3.a s3.len s3.cap (some ⟨k3,0,none⟩) 1 h6 λ(p1:Option Addr) (k4 k5:Nat) h7=>ZV cSl ⟨k1,0,none⟩ ⟨p1,k4,k5⟩ h7 λh8=>J1 z1.snd h8) λ(x1:Value) h9=>ZBw TP 275 [.pointer (some ⟨k1,0,none⟩),.pointer (some ⟨k2,0,none⟩)] (some x1) h9 λh10=>ZC cSl ⟨k1,0,none⟩ h10 λ(s4:Sl)=>ZC (cI IntKind.i64) ⟨k2,0,none⟩ h10 λ(n1:Int)=>Q (s4,n1) h10) (ZY (λu2 h11=>ZC cSl ⟨k1,0,none⟩ h11 λ(s5:Sl)=>ZV cSl ⟨k1,0,none⟩ s5 h11 λh12=>ZV (cI IntKind.i64) ⟨k2,0,none⟩ 0 h12 λh13=>ZBw TP 275 [.pointer (some ⟨k1,0,none⟩),.pointer (some ⟨k2,0,none⟩)] none h13 λh14=>ZC cSl ⟨k1,0,none⟩ h14 λ(s6:Sl)=>ZC (cI IntKind.i64) ⟨k2,0,none⟩ h14 λ(n2:Int)=>Q (s6,n2) h14) λ(J2:PUnit->Hp->Prop)=>ZB (decide ((↑s1.len:Int)>0)) (ZBw TP 275 [.pointer (some ⟨k1,0,none⟩),.pointer (some ⟨k2,0,none⟩)] (some (.iface 369 (.agg ⟨[]⟩))) h4 λh15=>ZC cSl ⟨k1,0,none⟩ h15 λ(s7:Sl)=>ZC (cI IntKind.i64) ⟨k2,0,none⟩ h15 λ(n3:Int)=>Q (s7,n3) h15) (J2 PUnit.unit h4))) λ(J3:PUnit->Hp->Prop)=>ZB (decide (p1<0)) (ZBw TP 275 [.pointer (some ⟨k1,0,none⟩),.pointer (some ⟨k2,0,none⟩)] (some (.iface 369 (.agg ⟨[]⟩))) h2 λh16=>ZC cSl ⟨k1,0,none⟩ h16 λ(s8:Sl)=>ZC (cI IntKind.i64) ⟨k2,0,none⟩ h16 λ(n4:Int)=>Q (s8,n4) h16) (J3 PUnit.unit h2)
theorem e194 (p0:Sl) (p1:Int) (h:Hp) (Q:Sl×Int->Hp->Prop):ZZ0 a194 TP 194 n194 (ZW [cSl,cI .i64]) [Value.slice p0.a p0.len p0.cap,Value.int IntKind.i64 p1] h Q=F194 p0 p1 h Q:=by kernel_rfl
theorem c194 {p0:Sl} {p1:Int} {h:Hp} {Q:Sl×Int->Hp->Prop} (hk:F194 p0 p1 h Q):ZA TP 194 [Value.slice p0.a p0.len p0.cap,Value.int IntKind.i64 p1] (ZW [cSl,cI .i64]) h Q:=ZKj (ZDi ZDd ZFh ZFi rfl (by kernel_rfl)) ZFr ((e194 p0 p1 h Q).mpr hk)
def a187:Ann:=mkA 0 [] 0 (bc [])
def n187:An:=(s0 (s0 (sq (s0 (bk (.loop [(3,false,cSl),(4,false,cI .i64)] 524248 (sq (s0 (cn lf lf)) (sq (bk r0) r0))))) (s0 lf))))
def F187 (p0:Sl) (h:Hp) (Q:Sl->Hp->Prop):Prop:=ZM (Obj.cells ⟨[]⟩ 5) h λk1 h1=>Zj ({a:=some ⟨k1,0,none⟩,len:=0,cap:=0:Sl},0) h1 λ(J1:Sl×Int->Hp->Prop) (z1:Sl×Int) h2=>ZB (decide (z1.snd<(↑p0.len:Int))) (Zl p0.a p0.len z1.snd λa1=>ZC (cI IntKind.i64) (a1.add (z1.snd.toNat*1)) h2 λ(n1:Int)=>ZA TP 269 [.int .i64 n1] cSl h2 λ(s1:Sl) h3=>ZX (cI IntKind.u8) 5 1 z1.fst.a z1.fst.len z1.fst.cap s1.a s1.len h3 λ(p1:Option Addr) (k2 k3:Nat) h4=>J1 (⟨p1,k2,k3⟩,IntKind.i64.wrap (z1.snd+1)) h4) (Q z1.fst h2)
theorem c187 {p0 h Q} (hk:F187 p0 h Q):ZA TP 187 [.slice p0.a p0.len p0.cap] (cSl) h Q:=cc a187 n187 hk
def a274:Ann:=mkA 0 [] 0 (bc [])
def n274:An:=(s0 (s0 (sq (s0 (bk (.loop [(5,false,cI .u64),(14,false,cI .i64)] 281474976694524 (s0 (sq (cn lf lf) (sq (bk (s0 (s0 (sq (s0 (cn lf lf)) (sq (.join [(42,false,cB)] 8795556151296 r0 (cn (s0 lf) lf)) (s0 lf)))))) r0)))))) (s0 lf))))
def F274 (p0:Sl) (h:Hp) (Q:Int×Int×Bool->Hp->Prop):Prop:=ZAI p0.len p0.cap none (some (ZJy (↑p0.len:Int) (10:Int))) λ(k1 k2:Nat)=>Zj ((0:Int),(0:Int)) h λ(J1:Int×Int->Hp->Prop) (z1:Int×Int) (h1:Hp)=>ZB (decide (z1.snd<(↑(k2-k1):Int))) (Zl (Zm p0.a k1 p0.cap (1:Nat)) (k2-k1) z1.snd λ(a1:Addr)=>ZC (cI IntKind.u8) (a1.add (z1.snd.toNat*(1:Nat))) h1 λ(n1:Int)=>(128:Int)≠(0:Int)/\(0:Int)<=IntKind.i64.wrap ((7:Int)*z1.snd)/\ZB (decide (n1>=(128:Int))) (J1 (orI IntKind.u64 z1.fst (ZLw IntKind.u64 (IntKind.u64.wrap (n1.tmod (128:Int))) (IntKind.i64.wrap ((7:Int)*z1.snd))),IntKind.i64.wrap (z1.snd+(1:Int))) h1) (ZY (λ(t1:Bool) (h2:Hp)=>ZB t1 (Q ((0:Int),(0:Int),false) h2) (ZA TP (322:Nat) [Value.int IntKind.u64 (orI IntKind.u64 z1.fst (ZLw IntKind.u64 (IntKind.u64.wrap (n1.tmod (128:Int))) (IntKind.i64.wrap ((7:Int)*z1.snd))))] (cI IntKind.i64) h2 λ(n2:Int) (h3:Hp)=>Q (n2,IntKind.i64.wrap (z1.snd+(1:Int)),true) h3)) λ(J2:Bool->Hp->Prop)=>ZB (n1==(0:Int)) (ZB (decide (z1.snd>(0:Int))) (J2 true h1) (ZB (z1.snd==(9:Int)) (J2 (decide (n1>(1:Int))) h1) (J2 false h1))) (ZB (z1.snd==(9:Int)) (J2 (decide (n1>(1:Int))) h1) (J2 false h1)))) (Q ((0:Int),(0:Int),false) h1)
theorem c274 {p0 h Q} (hk:F274 p0 h Q):ZA TP 274 [.slice p0.a p0.len p0.cap] (ZW [cI .i64,cI .i64,cB]) h Q:=cc a274 n274 hk
def a262:Ann:=mkA 0 [] 0 (bc [])
def n262:An:=(s0 (sq (s0 (cn (s0 lf) lf)) (s0 (s0 lf))))
def F262 (p0:Sl) (h:Hp) (Q:Sl×Bool->Hp->Prop):Prop:=ZB (decide ((↑p0.len:Int)>80)) (Q (⟨none,0,0⟩,false) h) (ZM (Obj.cells ⟨[.int .u8 197,.int .u8 (IntKind.u8.wrap (↑p0.len:Int))]⟩ 5) h λk1 h1=>ZM (Obj.cells ⟨[.slice (some ⟨k1,0,none⟩) 2 2,.slice p0.a p0.len p0.cap]⟩ 85) h1 λk2 h2=>ZA TP 272 [.slice (some ⟨k2,0,none⟩) 2 2] (cI IntKind.u32) h2 λ(n1:Int) h3=>ZA TP 271 [.int .u32 n1] cSl h3 λ(s1:Sl) h4=>ZM (Obj.cells ⟨[.slice (some ⟨k1,0,none⟩) 2 2,.slice p0.a p0.len p0.cap,.slice s1.a s1.len s1.cap]⟩ 85) h4 λk3 h5=>ZA TP 314 [.slice (some ⟨k3,0,none⟩) 3 3] cSl h5 λ(s2:Sl) h6=>Q (s2,true) h6)
theorem c262 {p0 h Q} (hk:F262 p0 h Q):ZA TP 262 [.slice p0.a p0.len p0.cap] (ZW [cSl,cB]) h Q:=cc a262 n262 hk
def a112:Ann:=mkA 0 [] 0 (bc [])
def n112:An:=(s0 (sq (s0 (cn (s0 lf) lf)) (s0 (s0 (s0 lf)))))
def F112 (p0:Sl) (h:Hp) (Q:Sl×Bool->Hp->Prop):Prop:=ZB (decide ((↑p0.len:Int)>80)) (Q (⟨none,0,0⟩,false) h) (ZM (Obj.cells ⟨[.int .u8 197,.int .u8 (IntKind.u8.wrap (↑p0.len:Int))]⟩ 5) h λk1 h1=>ZX (cI IntKind.u8) 5 1 (some ⟨k1,0,none⟩) 2 2 p0.a p0.len h1 λ(p1:Option Addr) (k2 k3:Nat) h2=>ZA TP 186 [.slice p1 k2 k3] (cI IntKind.u32) h2 λ(n1:Int) h3=>(0:Int)<=24/\(0:Int)<=16/\(0:Int)<=8/\ZM (Obj.cells ⟨[.int .u8 (IntKind.u8.wrap (ZBT IntKind.u32 n1 24)),.int .u8 (IntKind.u8.wrap (ZBT IntKind.u32 n1 16)),.int .u8 (IntKind.u8.wrap (ZBT IntKind.u32 n1 8)),.int .u8 (IntKind.u8.wrap n1)]⟩ 5) h3 λk4 h4=>ZX (cI IntKind.u8) 5 1 p1 k2 k3 (some ⟨k4,0,none⟩) 4 h4 λ(p2:Option Addr) (k5 k6:Nat) h5=>Q (⟨p2,k5,k6⟩,true) h5)
theorem c112 {p0 h Q} (hk:F112 p0 h Q):ZA TP 112 [.slice p0.a p0.len p0.cap] (ZW [cSl,cB]) h Q:=cc a112 n112 hk
def a190:Ann:=mkA 0 [] 0 (bc [])
def n190:An:=(s0 (sq (.join [(19,false,cB)] 1048544 r0 (cn (s0 lf) lf)) (s0 (sq (.join [(44,false,cB)] 35184338534400 (rg [0,1,2,3,4,5,6,7,8,12,13,14,15,16,9,10,11,17,18,19]) (cn (s0 lf) lf)) (s0 lf)))))
def F190 (p0:Sl) (h:Hp) (Q:Sl×Int×Bool->Hp->Prop):Prop:=ZY (λ(t1:Bool) h1=>ZB t1 (Q (⟨none,0,0⟩,0,false) h1) (Zl p0.a p0.len 1 λa1=>ZC (cI IntKind.u8) ⟨a1.block,a1.off+1,none⟩ h1 λ(n1:Int)=>ZY (λ(t2:Bool) h2=>ZB t2 (Q (⟨none,0,0⟩,0,false) h2) (ZAI p0.len p0.cap (some 2) (some (IntKind.i64.wrap (2+IntKind.i64.wrap n1))) λ(k1 k2:Nat)=>ZA TP 273 [.slice (Zm p0.a k1 p0.cap 1) (k2-k1) (p0.cap-k1)] cSl h2 λ(s1:Sl) h3=>Q (s1,IntKind.i64.wrap (IntKind.i64.wrap (2+IntKind.i64.wrap n1)+4),true) h3)) λ(J1:Bool->Hp->Prop)=>ZB (decide ((↑p0.len:Int)<IntKind.i64.wrap (IntKind.i64.wrap (2+IntKind.i64.wrap n1)+4))) (J1 true h1) (ZAI p0.len p0.cap none (some (IntKind.i64.wrap (2+IntKind.i64.wrap n1))) λ(k3 k4:Nat)=>ZAI p0.len p0.cap (some (IntKind.i64.wrap (2+IntKind.i64.wrap n1))) (some (IntKind.i64.wrap (IntKind.i64.wrap (2+IntKind.i64.wrap n1)+4))) λ(k5 k6:Nat)=>ZM (Obj.cells ⟨[.slice (Zm p0.a k3 p0.cap 1) (k4-k3) (p0.cap-k3)]⟩ 85) h1 λk7 h4=>ZA TP 272 [.slice (some ⟨k7,0,none⟩) 1 1] (cI IntKind.u32) h4 λ(n2:Int) h5=>ZA TP 271 [.int .u32 n2] cSl h5 λ(s2:Sl) h6=>ZA TP 270 [.slice s2.a s2.len s2.cap,.slice (Zm p0.a k5 p0.cap 1) (k6-k5) (p0.cap-k5)] cB h6 λ(t3:Bool) h7=>J1 (!t3) h7))) λ(J2:Bool->Hp->Prop)=>ZB (decide ((↑p0.len:Int)<2)) (J2 true h) (Zl p0.a p0.len 0 λa2=>ZC (cI IntKind.u8) (a2.add 0) h λ(n3:Int)=>ZB (n3 != 197) (J2 true h) (Zl p0.a p0.len 1 λa3=>ZC (cI IntKind.u8) ⟨a3.block,a3.off+1,none⟩ h λ(n4:Int)=>J2 (decide (n4>80)) h))
theorem c190 {p0 h Q} (hk:F190 p0 h Q):ZA TP 190 [.slice p0.a p0.len p0.cap] (ZW [cSl,cI .i64,cB]) h Q:=cc a190 n190 hk
def a105:Ann:=mkA 0 [] 0 (bc [])
def n105:An:=(s0 (s0 lf))
def F105  (h:Hp) (Q:Option Addr->Hp->Prop):Prop:=ZM (Obj.cells ⟨[.slice none 0 0,.int .i64 0]⟩ 278) h λk1 h1=>Q (some ⟨k1,0,none⟩) h1
theorem c105  {h:Hp} {Q:Option Addr->Hp->Prop} (hk:F105  h Q):ZA TP 105 [] (cP) h Q:=cc a105 n105 hk
def a115:Ann:=mkA 0 [] 0 (bc [])
def n115:An:=(s0 (sq (s0 (cn (s0 lf) lf)) (s0 (s0 (sq (bk (.loop [(5,false,cSl),(6,false,cSl)] 562949953160160 (sq (.join [(25,false,cB)] 66846720 r0 (cn lf lf)) (.blockJ [(5,false,cSl),(6,false,cSl)] 562949886313440 (s0 (sq (s0 (cn (s0 (s0 lf)) lf)) (s0 r0))))))) (s0 (s0 lf)))))))
def F115 (p0:Option Addr) (p1:Sl) (h:Hp) (Q:Sl->Hp->Prop):Prop:=ZB p0.isNone (Q ⟨none,0,0⟩ h) (ZR p0 λa1=>ZC cSl (a1.add 0) h λ(s1:Sl)=>ZX (cI IntKind.u8) 5 1 s1.a s1.len s1.cap p1.a p1.len h λ(p1:Option Addr) (k1 k2:Nat) h1=>Zj ({a:=none,len:=0,cap:=0:Sl},{a:=p1,len:=k1,cap:=k2:Sl}) h1 λ(J1:Sl×Sl->Hp->Prop) (z1:Sl×Sl) h2=>ZY (λ(t1:Bool) h3=>ZB t1 (ZY (λ(z2:Sl×Sl) h4=>J1 (z2.fst,z2.snd) h4) λ(J2:Sl×Sl->Hp->Prop)=>ZA TP 190 [.slice z1.snd.a z1.snd.len z1.snd.cap] (ZW [cSl,cI IntKind.i64,cB]) h3 λ(z3:Sl×Int×Bool) h5=>ZB z3.snd.snd (ZM (Obj.cells ⟨[.slice z3.fst.a z3.fst.len z3.fst.cap]⟩ 85) h5 λk3 h6=>ZX cSl 85 24 z1.fst.a z1.fst.len z1.fst.cap (some ⟨k3,0,none⟩) 1 h6 λ(p2:Option Addr) (k4 k5:Nat) h7=>ZAI z1.snd.len z1.snd.cap (some z3.snd.fst) none λ(k6 k7:Nat)=>J2 (⟨p2,k4,k5⟩,⟨Zm z1.snd.a k6 z1.snd.cap 1,k7-k6,z1.snd.cap-k6⟩) h7) (ZR p0 λa2=>ZC (cI IntKind.i64) ⟨a2.block,a2.off+1,none⟩ h5 λ(n1:Int)=>ZR p0 λa3=>ZV (cI IntKind.i64) ⟨a3.block,a3.off+1,none⟩ (IntKind.i64.wrap (n1+1)) h5 λh8=>ZAI z1.snd.len z1.snd.cap (some 1) none λ(k8 k9:Nat)=>J2 (z1.fst,⟨Zm z1.snd.a k8 z1.snd.cap 1,k9-k8,z1.snd.cap-k8⟩) h8)) (ZM (Obj.cells ⟨[]⟩ 5) h3 λk10 h9=>ZX (cI IntKind.u8) 5 1 (some ⟨k10,0,none⟩) 0 0 z1.snd.a z1.snd.len h9 λ(p3:Option Addr) (k11 k12:Nat) h10=>ZR p0 λa4=>ZV cSl (a4.add 0) ⟨p3,k11,k12⟩ h10 λh11=>Q z1.fst h11)) λ(J3:Bool->Hp->Prop)=>ZB (decide ((↑z1.snd.len:Int)>0)) (ZA TP 189 [.slice z1.snd.a z1.snd.len z1.snd.cap] cB h2 λ(t2:Bool) h12=>J3 (!t2) h12) (J3 false h2))
theorem c115 {p0 p1 h Q} (hk:F115 p0 p1 h Q):ZA TP 115 [.pointer p0,.slice p1.a p1.len p1.cap] (cSl) h Q:=cc a115 n115 hk
def a273:Ann:=mkA 0 [] 0 (bc [])
def n273:An:=(s0 (sq (s0 (cn (s0 lf) lf)) (s0 lf)))
def F273 (p0:Sl) (h:Hp) (Q:Sl->Hp->Prop):Prop:=ZB p0.a.isNone (Q ⟨none,0,0⟩ h) (ZM (Obj.cells ⟨[]⟩ 5) h λk1 h1=>ZX (cI IntKind.u8) 5 1 (some ⟨k1,0,none⟩) 0 0 p0.a p0.len h1 λ(p1:Option Addr) (k2 k3:Nat) h2=>Q ⟨p1,k2,k3⟩ h2)
theorem c273 {p0 h Q} (hk:F273 p0 h Q):ZA TP 273 [.slice p0.a p0.len p0.cap] (cSl) h Q:=cc a273 n273 hk
def a352:Ann:=mkA 0 [] 0 (bc [])
def n352:An:=(s0 (s0 (sq (s0 (cn (s0 lf) lf)) (s0 (sq (rg [0,1,2,3,4,5,6,7]) (s0 (s0 lf)))))))
def F352 (p0:Sl) (p1:Int) (p2:Int) (h:Hp) (Q:Sl->Hp->Prop):Prop:=ZIA p0.cap (some p1) p2 (↑p0.len:Int) λ(k1 k2 k3:Nat)=>ZB (p1==p2) (Q p0 h) (ZAI p0.len p0.cap none (some p1) λ(k4 k5:Nat)=>ZAI p0.len p0.cap (some p2) none λ(k6 k7:Nat)=>ZX ZQ 161 64 (Zm p0.a k4 p0.cap 8) (k5-k4) (p0.cap-k4) (Zm p0.a k6 p0.cap 8) (k7-k6) h λ(p1:Option Addr) (k8 k9:Nat) h1=>ZAI k8 k9 (some (↑k8:Int)) (some (↑p0.len:Int)) λ(k10 k11:Nat)=>ZEC ZQ {Seq:=0,Msg_Kind:=0,Msg_F_0:=0,Msg_F_1:=0,Msg_F_2:=0,Msg_F_3:=0,Msg_F_4:=0,Msg_F_5:=0:ZP} (Zm p1 k10 k9 8) (k11-k10) h1 λh2=>Q ⟨p1,k8,k9⟩ h2)
theorem c352 {p0 p1 p2 h Q} (hk:F352 p0 p1 p2 h Q):ZA TP 352 [.slice p0.a p0.len p0.cap,.int .i64 p1,.int .i64 p2] (cSl) h Q:=cc a352 n352 hk
def a351:Ann:=mkA 0 [] 0 (bc [])
def n351:An:=(s0 (sq (s0 (cn (s0 lf) lf)) (s0 lf)))
def F351 (p0:Sl) (h:Hp) (Q:Sl->Hp->Prop):Prop:=ZB p0.a.isNone (Q ⟨none,0,0⟩ h) (ZM (Obj.cells ⟨[]⟩ 161) h λk1 h1=>ZX ZQ 161 64 (some ⟨k1,0,none⟩) 0 0 p0.a p0.len h1 λ(p1:Option Addr) (k2 k3:Nat) h2=>Q ⟨p1,k2,k3⟩ h2)
theorem c351 {p0 h Q} (hk:F351 p0 h Q):ZA TP 351 [.slice p0.a p0.len p0.cap] (cSl) h Q:=cc a351 n351 hk
def a350:Ann:=mkA 0 [] 0 (bc [])
def n350:An:=(s0 (s0 lf))
def F350 (p0:Int) (h:Hp) (Q:Int->Hp->Prop):Prop:=(0:Int)<=1/\(0:Int)<=63/\Q (ZPa IntKind.u64 (ZLw IntKind.u64 (IntKind.u64.wrap p0) 1) (IntKind.u64.wrap (ZBT IntKind.i64 p0 63))) h
theorem c350 {p0 h Q} (hk:F350 p0 h Q):ZA TP 350 [.int .i64 p0] (cI .u64) h Q:=cc a350 n350 hk
def a275:Ann:=mkA 8 [] 0 (bc [(3,ZIs)])
def n275:An:=(sq rX (cn (.join [] 65304 (sq rX (s0 (cn rX lf))) r0) lf))
def F275_0 (p0:Addr) (p1:Addr) (h:Hp) (K:Hp->Prop):Prop:=K h
theorem e275_0 (p0:Addr) (p1:Addr) (h:Hp) (K:Hp->Prop):ZPH a275 TP 275 n275 [Value.pointer (some p0),Value.pointer (some p1)] (none) h K=F275_0 p0 p1 h K:=by kernel_rfl
theorem c275_0 {p0:Addr} {p1:Addr} {h:Hp} {K:Hp->Prop} (hk:F275_0 p0 p1 h K):ZBw TP 275 [Value.pointer (some p0),Value.pointer (some p1)] (none) h K:=ZEQ (ZDi ZDd ZFh ZFi rfl (by kernel_rfl)) ZFr ((e275_0 p0 p1 h K).mpr hk)
def F275_1 (p0:Addr) (p1:Addr) (h:Hp) (K:Hp->Prop):Prop:=ZY (λu1 h1=>ZV cSl p0 ⟨none,0,0⟩ h1 λh2=>ZV (cI IntKind.i64) p1 2 h2 λh3=>K h3) λ(J1:PUnit->Hp->Prop)=>J1 PUnit.unit h
theorem e275_1 (p0:Addr) (p1:Addr) (h:Hp) (K:Hp->Prop):ZPH a275 TP 275 n275 [Value.pointer (some p0),Value.pointer (some p1)] (some (.iface 369 (.agg #[]))) h K=F275_1 p0 p1 h K:=by kernel_rfl
theorem c275_1 {p0:Addr} {p1:Addr} {h:Hp} {K:Hp->Prop} (hk:F275_1 p0 p1 h K):ZBw TP 275 [Value.pointer (some p0),Value.pointer (some p1)] (some (.iface 369 (.agg #[]))) h K:=ZEQ (ZDi ZDd ZFh ZFi rfl (by kernel_rfl)) ZFr ((e275_1 p0 p1 h K).mpr hk)
def a276:Ann:=mkA 0 [] 0 (bc [])
def n276:An:=(s0 (s0 (.join [] 122880 (s0 (cn rX lf)) (sq (rg [0,1,2,3,4,5]) lf))))
def F276 (p0:Sl) (h:Hp) (Q:Int×Sl->Hp->Prop) (S:Value->Hp->Prop):Prop:=ZA TP 274 [.slice p0.a p0.len p0.cap] (ZW [cI IntKind.i64,cI IntKind.i64,cB]) h λ(z1:Int×Int×Bool) h1=>ZY (λu1 h2=>ZAI p0.len p0.cap (some z1.snd.fst) none λ(k1 k2:Nat)=>Q (z1.fst,⟨Zm p0.a k1 p0.cap 1,k2-k1,p0.cap-k1⟩) h2) λ(J1:PUnit->Hp->Prop)=>ZB (!z1.snd.snd) (S (.iface 369 (.agg ⟨[]⟩)) h1) (J1 PUnit.unit h1)
theorem e276 (p0:Sl) (h:Hp) (Q:Int×Sl->Hp->Prop) (S:Value->Hp->Prop):fnX a276 TP 276 n276 (ZW [cI .i64,cSl]) [Value.slice p0.a p0.len p0.cap] h Q S=F276 p0 h Q S:=by kernel_rfl
theorem c276 {p0:Sl} {h:Hp} {Q:Int×Sl->Hp->Prop} {S:Value->Hp->Prop} (hk:F276 p0 h Q S):ZEu TP 276 [Value.slice p0.a p0.len p0.cap] (ZW [cI .i64,cSl]) h Q S:=ZOZ (ZDi ZDd ZFh ZFi rfl (by kernel_rfl)) ZFr ((e276 p0 h Q S).mpr hk)
def a269:Ann:=mkA 0 [] 0 (bc [])
def n269:An:=(s0 (s0 (s0 (sq (bk (.loop [(3,false,cI .u64),(4,false,cSl)] 262040 (sq (s0 (cn lf lf)) (bk (s0 r0))))) (s0 lf)))))
def F269 (p0:Int) (h:Hp) (Q:Sl->Hp->Prop):Prop:=ZA TP (320:Nat) [Value.int IntKind.i64 p0] (cI IntKind.u64) h λ(n1:Int) (h1:Hp)=>Zj (n1,{a:=none,len:=(0:Nat),cap:=(0:Nat):Sl}) h1 λ(J1:Int×Sl->Hp->Prop) (z1:Int×Sl) (h2:Hp)=>ZB (decide (z1.fst>=(128:Int))) ((128:Int)≠(0:Int)/\ZM (Obj.cells {toList:=[Value.int IntKind.u8 (IntKind.u8.wrap (IntKind.u64.wrap (z1.fst.tmod (128:Int)+(128:Int))))]:Array Value} (5:Nat)) h2 λ(k1:Nat) (h3:Hp)=>ZX (cI IntKind.u8) (5:Nat) (1:Nat) z1.snd.a z1.snd.len z1.snd.cap (some {block:=k1,off:=(0:Nat):Addr}) (1:Nat) h3 λ(p1:Option Addr) (k2 k3:Nat) (h4:Hp)=>(128:Int)≠(0:Int)/\J1 (ZXK IntKind.u64 z1.fst (128:Int),{a:=p1,len:=k2,cap:=k3:Sl}) h4) (ZM (Obj.cells {toList:=[Value.int IntKind.u8 (IntKind.u8.wrap z1.fst)]:Array Value} (5:Nat)) h2 λ(k4:Nat) (h5:Hp)=>ZX (cI IntKind.u8) (5:Nat) (1:Nat) z1.snd.a z1.snd.len z1.snd.cap (some {block:=k4,off:=(0:Nat):Addr}) (1:Nat) h5 λ(p2:Option Addr) (k5 k6:Nat) (h6:Hp)=>Q {a:=p2,len:=k5,cap:=k6:Sl} h6)
theorem c269 {p0 h Q} (hk:F269 p0 h Q):ZA TP 269 [.int .i64 p0] (cSl) h Q:=cc a269 n269 hk
def a322:Ann:=mkA 0 [] 0 (bc [])
def n322:An:=(s0 (s0 lf))
def F322 (p0:Int) (h:Hp) (Q:Int->Hp->Prop):Prop:=(0:Int)<=1/\Q (ZPa IntKind.i64 (IntKind.i64.wrap (ZBT IntKind.u64 p0 1)) (IntKind.i64.wrap (0-IntKind.i64.wrap (ZDH IntKind.u64 p0 1)))) h
theorem c322 {p0 h Q} (hk:F322 p0 h Q):ZA TP 322 [.int .u64 p0] (cI .i64) h Q:=cc a322 n322 hk
def a314:Ann:=mkA 0 [] 0 (bc [])
def n314:An:=(s0 (s0 (sq (s0 (bk (.loop [(3,false,cI .i64),(11,false,cI .i64)] 8386600 (s0 (sq (cn lf lf) (sq (.blockJ [(3,false,cI .i64)] 4186152 (s0 (s0 (s0 (cn rX lf))))) r0)))))) (s0 (sq (s0 (bk (.loop [(6,false,cSl),(27,false,cI .i64)] 34225520960 (s0 (sq (cn lf lf) (sq (bk (s0 r0)) r0)))))) (s0 lf))))))
def F314 (p0:Sl) (h:Hp) (Q:Sl->Hp->Prop):Prop:=Zj (0,0) h λ(J1:Int×Int->Hp->Prop) (z1:Int×Int) h1=>ZB (decide (z1.snd<(↑p0.len:Int))) (ZY (λ(n1:Int) h2=>J1 (n1,IntKind.i64.wrap (z1.snd+1)) h2) λ(J2:Int->Hp->Prop)=>Zl p0.a p0.len z1.snd λa1=>ZC cSl (a1.add (z1.snd.toNat*1)) h1 λ(s1:Sl)=>ZB (decide (IntKind.i64.wrap (z1.fst+(↑s1.len:Int))<0)) False (J2 (IntKind.i64.wrap (z1.fst+(↑s1.len:Int))) h1)) (ZA TP 349 [.slice none 0 0,.int .i64 z1.fst] cSl h1 λ(s2:Sl) h3=>Zj (s2,0) h3 λ(J3:Sl×Int->Hp->Prop) (z2:Sl×Int) h4=>ZB (decide (z2.snd<(↑p0.len:Int))) (Zl p0.a p0.len z2.snd λa2=>ZC cSl (a2.add (z2.snd.toNat*1)) h4 λ(s3:Sl)=>ZX (cI IntKind.u8) 5 1 z2.fst.a z2.fst.len z2.fst.cap s3.a s3.len h4 λ(p1:Option Addr) (k1 k2:Nat) h5=>J3 (⟨p1,k1,k2⟩,IntKind.i64.wrap (z2.snd+1)) h5) (Q z2.fst h4))
theorem c314 {p0 h Q} (hk:F314 p0 h Q):ZA TP 314 [.slice p0.a p0.len p0.cap] (cSl) h Q:=cc a314 n314 hk
def a271:Ann:=mkA 0 [] 0 (bc [])
def n271:An:=(s0 (s0 (sq (s0 (bk (.loop [(8,false,cI .i64)] 2096912 (s0 (sq (cn lf lf) (sq (bk (s0 r0)) r0)))))) (s0 lf))))
def F271 (p0:Int) (h:Hp) (Q:Sl->Hp->Prop):Prop:=ZEG 4 4 1 (ZM (Obj.cells ⟨[.int .u8 0,.int .u8 0,.int .u8 0,.int .u8 0]⟩ 5) h λk1 h1=>Zj 0 h1 λ(J1:Int->Hp->Prop) (n1:Int) h2=>ZB (decide (n1<4)) (0<=IntKind.i64.wrap (8*IntKind.i64.wrap (3-n1))/\Zl (some ⟨k1,0,none⟩) 4 n1 λa1=>ZV (cI IntKind.u8) (a1.add (n1.toNat*1)) (IntKind.u8.wrap (ZBT IntKind.u32 p0 (IntKind.i64.wrap (8*IntKind.i64.wrap (3-n1))))) h2 λh3=>J1 (IntKind.i64.wrap (n1+1)) h3) (Q ⟨some ⟨k1,0,none⟩,4,4⟩ h2))
theorem c271 {p0 h Q} (hk:F271 p0 h Q):ZA TP 271 [.int .u32 p0] (cSl) h Q:=cc a271 n271 hk
def a272:Ann:=mkA 0 [] 0 (bc [])
def n272:An:=(s0 (s0 (sq (s0 (bk (.loop [(3,false,cI .u32),(10,false,cI .i64)] 33553576 (s0 (sq (cn lf lf) (sq (bk (s0 (s0 (bk (.loop [(3,false,cI .u32),(16,false,cI .i64)] 16711816 (s0 (sq (cn lf lf) (sq (bk (s0 r0)) r0)))))))) r0)))))) (s0 lf))))
def F272 (p0:Sl) (h:Hp) (Q:Int->Hp->Prop):Prop:=Zj (0,0) h λ(J1:Int×Int->Hp->Prop) (z1:Int×Int) h1=>ZB (decide (z1.snd<(↑p0.len:Int))) (Zl p0.a p0.len z1.snd λa1=>ZC cSl (a1.add (z1.snd.toNat*1)) h1 λ(s1:Sl)=>Zj (z1.fst,0) h1 λ(J2:Int×Int->Hp->Prop) (z2:Int×Int) h2=>ZB (decide (z2.snd<(↑s1.len:Int))) (Zl s1.a s1.len z2.snd λa2=>ZC (cI IntKind.u8) (a2.add (z2.snd.toNat*1)) h2 λ(n1:Int)=>ZA TP 321 [.int .u32 z2.fst,.int .u8 n1] (cI IntKind.u32) h2 λ(n2:Int) h3=>J2 (n2,IntKind.i64.wrap (z2.snd+1)) h3) (J1 (z2.fst,IntKind.i64.wrap (z1.snd+1)) h2)) (Q z1.fst h1)
theorem c272 {p0 h Q} (hk:F272 p0 h Q):ZA TP 272 [.slice p0.a p0.len p0.cap] (cI .u32) h Q:=cc a272 n272 hk
def a186:Ann:=mkA 0 [] 0 (bc [])
def n186:An:=(s0 (s0 (sq (s0 (bk (.loop [(3,false,cI .u32),(4,false,cI .i64)] 131064 (sq (s0 (cn lf lf)) (sq (bk r0) r0))))) (s0 lf))))
def F186 (p0:Sl) (h:Hp) (Q:Int->Hp->Prop):Prop:=Zj (0,0) h λ(J1:Int×Int->Hp->Prop) (z1:Int×Int) h1=>ZB (decide (z1.snd<(↑p0.len:Int))) (Zl p0.a p0.len z1.snd λa1=>ZC (cI IntKind.u8) (a1.add (z1.snd.toNat*1)) h1 λ(n1:Int)=>ZA TP 268 [.int .u32 z1.fst,.int .u8 n1] (cI IntKind.u32) h1 λ(n2:Int) h2=>J1 (n2,IntKind.i64.wrap (z1.snd+1)) h2) (Q z1.fst h1)
theorem c186 {p0 h Q} (hk:F186 p0 h Q):ZA TP 186 [.slice p0.a p0.len p0.cap] (cI .u32) h Q:=cc a186 n186 hk
def a270:Ann:=mkA 0 [] 0 (bc [])
def n270:An:=(s0 (s0 lf))
def F270 (p0:Sl) (p1:Sl) (h:Hp) (Q:Bool->Hp->Prop):Prop:=ZX8 p0.a p0.len h λ(u1:ByteArray)=>ZX8 p1.a p1.len h λ(u2:ByteArray)=>Q (ZJ9 u1 u2) h
theorem c270 {p0 p1 h Q} (hk:F270 p0 p1 h Q):ZA TP 270 [.slice p0.a p0.len p0.cap,.slice p1.a p1.len p1.cap] (cB) h Q:=cc a270 n270 hk
def a189:Ann:=mkA 0 [] 0 (bc [])
def n189:An:=(s0 (sq (.join [(11,false,cB)] 4088 r0 (cn (s0 lf) lf)) (s0 lf)))
def F189 (p0:Sl) (h:Hp) (Q:Bool->Hp->Prop):Prop:=ZY (λ(t1:Bool) h1=>ZB t1 (Q false h1) (ZB ((↑p0.len:Int)==1) (Q true h1) (Zl p0.a p0.len 1 λa1=>ZC (cI IntKind.u8) ⟨a1.block,a1.off+1,none⟩ h1 λ(n1:Int)=>ZB (decide (n1<=80)) (Zl p0.a p0.len 1 λa2=>ZC (cI IntKind.u8) ⟨a2.block,a2.off+1,none⟩ h1 λ(n2:Int)=>Q (decide ((↑p0.len:Int)<IntKind.i64.wrap (6+IntKind.i64.wrap n2))) h1) (Q false h1)))) λ(J1:Bool->Hp->Prop)=>ZB ((↑p0.len:Int)==0) (J1 true h) (Zl p0.a p0.len 0 λa3=>ZC (cI IntKind.u8) (a3.add 0) h λ(n3:Int)=>J1 (n3 != 197) h)
theorem c189 {p0 h Q} (hk:F189 p0 h Q):ZA TP 189 [.slice p0.a p0.len p0.cap] (cB) h Q:=cc a189 n189 hk
def a320:Ann:=mkA 0 [] 0 (bc [])
def n320:An:=(s0 (sq (s0 (cn (s0 lf) lf)) (s0 lf)))
def F320 (p0:Int) (h:Hp) (Q:Int->Hp->Prop):Prop:=ZB (decide (p0<0)) (Q (IntKind.u64.wrap (IntKind.u64.wrap (2*IntKind.u64.wrap (IntKind.i64.wrap (0-IntKind.i64.wrap (p0+1))))+1)) h) (Q (IntKind.u64.wrap (2*IntKind.u64.wrap p0)) h)
theorem c320 {p0 h Q} (hk:F320 p0 h Q):ZA TP 320 [.int .i64 p0] (cI .u64) h Q:=cc a320 n320 hk
def a349:Ann:=mkA 0 [] 0 (bc [])
def n349:An:=(s0 (.join [] 224 (s0 (cn rX lf)) (sq (sq rX (s0 (cn rX lf))) (s0 lf))))
def F349 (p0:Sl) (p1:Int) (h:Hp) (Q:Sl->Hp->Prop):Prop:=ZY (λu1 h1=>ZB (decide (IntKind.i64.wrap (p1-IntKind.i64.wrap ((↑p0.cap:Int)-(↑p0.len:Int)))>0)) (ZAI p0.len p0.cap none (some (↑p0.cap:Int)) λ(k1 k2:Nat)=>ZHp (cI IntKind.u8) 0 5 1 (Zm p0.a k1 p0.cap 1) (k2-k1) (p0.cap-k1) (IntKind.i64.wrap (p1-IntKind.i64.wrap ((↑p0.cap:Int)-(↑p0.len:Int)))) h1 λ(p1:Option Addr) (k3 k4:Nat) h2=>ZAI k3 k4 none (some (↑p0.len:Int)) λ(k5 k6:Nat)=>Q ⟨Zm p1 k5 k4 1,k6-k5,k4-k5⟩ h2) (Q p0 h1)) λ(J1:PUnit->Hp->Prop)=>ZB (decide (p1<0)) False (J1 PUnit.unit h)
theorem c349 {p0 p1 h Q} (hk:F349 p0 p1 h Q):ZA TP 349 [.slice p0.a p0.len p0.cap,.int .i64 p1] (cSl) h Q:=cc a349 n349 hk
def a321:Ann:=mkA 0 [] 0 (bc [])
def n321:An:=(s0 (s0 (s0 (s0 lf))))
def F321 (p0:Int) (p1:Int) (h:Hp) (Q:Int->Hp->Prop):Prop:=(65521:Int)≠(0:Int)/\(0:Int)<=(16:Int)/\(65521:Int)≠(0:Int)/\(0:Int)<=(16:Int)/\Q (orI IntKind.u32 (ZLw IntKind.u32 ((IntKind.u32.wrap (ZBT IntKind.u32 p0 (16:Int)+(IntKind.u32.wrap (IntKind.u32.wrap (ZDH IntKind.u32 p0 (65535:Int)+IntKind.u32.wrap p1)+(1:Int))).tmod (65521:Int))).tmod (65521:Int)) (16:Int)) ((IntKind.u32.wrap (IntKind.u32.wrap (ZDH IntKind.u32 p0 (65535:Int)+IntKind.u32.wrap p1)+(1:Int))).tmod (65521:Int))) h
theorem c321 {p0 p1 h Q} (hk:F321 p0 p1 h Q):ZA TP 321 [.int .u32 p0,.int .u8 p1] (cI .u32) h Q:=cc a321 n321 hk
def a268:Ann:=mkA 0 [] 0 (bc [])
def n268:An:=(s0 (s0 (s0 (s0 lf))))
def F268 (p0:Int) (p1:Int) (h:Hp) (Q:Int->Hp->Prop):Prop:=(65521:Int)≠(0:Int)/\(0:Int)<=(16:Int)/\(65521:Int)≠(0:Int)/\(0:Int)<=(16:Int)/\Q (orI IntKind.u32 (ZLw IntKind.u32 ((IntKind.u32.wrap (ZBT IntKind.u32 p0 (16:Int)+(IntKind.u32.wrap (IntKind.u32.wrap (ZDH IntKind.u32 p0 (65535:Int)+IntKind.u32.wrap p1)+(1:Int))).tmod (65521:Int))).tmod (65521:Int)) (16:Int)) ((IntKind.u32.wrap (IntKind.u32.wrap (ZDH IntKind.u32 p0 (65535:Int)+IntKind.u32.wrap p1)+(1:Int))).tmod (65521:Int))) h
theorem c268 {p0 p1 h Q} (hk:F268 p0 p1 h Q):ZA TP 268 [.int .u32 p0,.int .u8 p1] (cI .u32) h Q:=cc a268 n268 hk
end Go.Proofs.YtkmniidiifpdgaaGreat
set_option maxRecDepth 20000
namespace Go.Proofs.YtkmniidiifpdgaaGreat
open Go.Eng
def a104:Ann:=mkA 0 [] 0 (bc [])
def n104:An:=(s0 (sq (.join [(8,false,cB)] 504 r0 (cn (s0 lf) lf)) (s0 lf)))
def F104 (p0:Int) (h:Hp) (Q:Option Addr->Hp->Prop):Prop:=ZY (λ(t1:Bool) h1=>ZB t1 (Q none h1) (ZA TP 181 [] cP h1 λ(p1:Option Addr) h2=>ZM (Obj.cells ⟨[.int .i64 p0,.bool false,.int .i64 1,.pointer p1,.int .i64 0,.int .i64 0,.int .i64 0]⟩ 276) h2 λk1 h3=>Q (some ⟨k1,0,none⟩) h3)) λ(J1:Bool->Hp->Prop)=>ZB (decide (p0<1)) (J1 true h) (J1 (decide (p0>1000)) h)
theorem c104 {p0 h Q} (hk:F104 p0 h Q):ZA TP 104 [.int .i64 p0] (cP) h Q:=cc a104 n104 hk
def a184:Ann:=mkA 40 [(16,3),(20,3),(21,3),(27,3),(28,3),(29,3)] 0 (bc [(3,ZQ),(5,ZAn)])
def n184:An:=(s0 (sq (s0 (cn (s0 lf) lf)) (.join [(4,false,cSl),(5,true,ZAn),(6,false,cB),(7,false,cB)] 562949953419504 (s0 (cn (.join [(24,false,cB)] 33488896 r0 (cn r0 lf)) (s0 (s0 r0)))) (.join [] 35465847065542656 (s0 (cn r0 lf)) (sq (rg [0,1,2,3,4,5,6,7]) lf)))))
def F184 (p0:Option Addr) (p1:ZP) (h:Hp) (Q:Sl×Msg×Bool×Bool->Hp->Prop):Prop:=ZB p0.isNone (Q (⟨none,0,0⟩,{Kind:=0,F_0:=0,F_1:=0,F_2:=0,F_3:=0,F_4:=0,F_5:=0:Msg},false,false) h) (ZY (λ(z1:Sl×Msg×Bool×Bool) h1=>ZY (λu1 h2=>Q (z1.fst,z1.snd.fst,z1.snd.snd.fst,z1.snd.snd.snd) h2) λ(J1:PUnit->Hp->Prop)=>ZB (decide ((↑z1.fst.len:Int)>0)) (ZR p0 λa1=>ZV (cI IntKind.i64) ⟨a1.block,a1.off+5,none⟩ 0 h1 λh3=>J1 PUnit.unit h3) (J1 PUnit.unit h1)) λ(J2:Sl×Msg×Bool×Bool->Hp->Prop)=>ZR p0 λa2=>ZC cB ⟨a2.block,a2.off+1,none⟩ h λ(t1:Bool)=>ZB (!t1) (ZY (λ(t2:Bool) h4=>ZB t2 (atP 6 0 (ZA TP 265 [.pointer p0,.int .i64 p1.Msg_F_0] (ZW [cSl,cB]) h4 λ(z2:Sl×Bool) h5=>J2 (z2.fst,{Kind:=0,F_0:=0,F_1:=0,F_2:=0,F_3:=0,F_4:=0,F_5:=0:Msg},false,false) h5)) (J2 (⟨none,0,0⟩,{Kind:=0,F_0:=0,F_1:=0,F_2:=0,F_3:=0,F_4:=0,F_5:=0:Msg},false,false) h4)) λ(J3:Bool->Hp->Prop)=>ZB (p1.Seq==0) (J3 (p1.Msg_Kind==1) h) (J3 false h)) (ZR p0 λa3=>ZV (cI IntKind.i64) ⟨a3.block,a3.off+6,none⟩ 0 h λh6=>ZA TP 266 [.pointer p0,.agg ⟨[.int .i64 p1.Seq,.int .i64 p1.Msg_Kind,.int .i64 p1.Msg_F_0,.int .i64 p1.Msg_F_1,.int .i64 p1.Msg_F_2,.int .i64 p1.Msg_F_3,.int .i64 p1.Msg_F_4,.int .i64 p1.Msg_F_5]⟩] (ZW [cSl,ZAn,cB]) h6 λ(z3:Sl×Msg×Bool) h7=>ZR p0 λa4=>ZC cB ⟨a4.block,a4.off+1,none⟩ h7 λ(t3:Bool)=>J2 (z3.fst,z3.snd.fst,z3.snd.snd,!t3) h7))
theorem c184 {p0 p1 h Q} (hk:F184 p0 p1 h Q):ZA TP 184 [.pointer p0,ZQ.enc p1] (ZW [cSl,ZAn,cB,cB]) h Q:=cc a184 n184 hk
def a69:Ann:=mkA 48 [(24,5),(25,5)] 33554432 (bc [(4,ZAn),(5,ZAn)])
def n69:An:=(s0 (s0 (sq (s0 (bk (.loop [(5,true,ZAn),(6,false,cI .i64)] 67108448 (sq (.join [(16,false,cB)] 130560 r0 (cn lf lf)) (sq (bk r0) r0))))) (s0 lf))))
def F69 (p0:Int) (p1:Sl) (h:Hp) (Q:Msg->Hp->Prop):Prop:=Zj ({Kind:=p0,F_0:=0,F_1:=0,F_2:=0,F_3:=0,F_4:=0,F_5:=0:Msg},0) h λ(J1:Msg×Int->Hp->Prop) (z1:Msg×Int) h1=>ZY (λ(t1:Bool) h2=>ZB t1 (Zl p1.a p1.len z1.snd λa1=>ZC (cI IntKind.i64) (a1.add (z1.snd.toNat*1)) h2 λ(n1:Int)=>atP 6 z1.snd (ZSM ZAn [.int .i64 z1.fst.Kind,.int .i64 z1.fst.F_0,.int .i64 z1.fst.F_1,.int .i64 z1.fst.F_2,.int .i64 z1.fst.F_3,.int .i64 z1.fst.F_4,.int .i64 z1.fst.F_5] (1+z1.snd.toNat*1) [.int .i64 n1] λ(x1:Msg)=>J1 (x1,IntKind.i64.wrap (z1.snd+1)) h2)) (Q z1.fst h2)) λ(J2:Bool->Hp->Prop)=>ZB (decide (z1.snd<(↑p1.len:Int))) (J2 (decide (z1.snd<6)) h1) (J2 false h1)
theorem c69 {p0 p1 h Q} (hk:F69 p0 p1 h Q):ZA TP 69 [.int .i64 p0,.slice p1.a p1.len p1.cap] (ZAn) h Q:=cc a69 n69 hk
def a182:Ann:=mkA 0 [] 0 (bc [])
def n182:An:=(s0 (sq (.join [(13,false,cB)] 16352 r0 (cn (s0 lf) lf)) (s0 (s0 (sq (rg [0,1,2,4,5,6,3,7,8,9,10]) (sq (.blockJ [(2,false,cSl)] 38685626227667858712690700 (.join [(38,false,cB)] 4503324749463552 (rg [0,1,2,3,4,6,7,8,5,9,10,11,12,13]) (cn (s0 (s0 lf)) (.join [(57,false,cB)] 2361039126246746750976 (rg [0,1,2,3,4,6,7,8,5,9,10,11,12,13]) (cn r0 (sq (rg [0,1,2,4,5,6,3,7,8,9]) (cn r0 lf))))))) (.join [] 2437194452343092416207650816 (s0 (cn r0 lf)) (s0 lf))))))))
def F182 (p0:Option Addr) (h:Hp) (Q:Sl×Bool->Hp->Prop):Prop:=ZY (λ(t1:Bool) h1=>ZB t1 (Q (⟨none,0,0⟩,false) h1) (ZR p0 λa1=>ZC (cI IntKind.i64) ⟨a1.block,a1.off+5,none⟩ h1 λ(n1:Int)=>ZR p0 λa2=>ZV (cI IntKind.i64) ⟨a2.block,a2.off+5,none⟩ (IntKind.i64.wrap (n1+1)) h1 λh2=>ZR p0 λa3=>ZC (cI IntKind.i64) ⟨a3.block,a3.off+6,none⟩ h2 λ(n2:Int)=>ZR p0 λa4=>ZV (cI IntKind.i64) ⟨a4.block,a4.off+6,none⟩ (IntKind.i64.wrap (n2+1)) h2 λh3=>ZR p0 λa5=>ZR p0 λa6=>ZC (cI IntKind.i64) ⟨a5.block,a5.off+6,none⟩ h3 λ(n3:Int)=>ZC (cI IntKind.i64) (a6.add 0) h3 λ(n4:Int)=>n4≠0/\ZY (λ(s1:Sl) h4=>ZY (λu1 h5=>Q (s1,false) h5) λ(J1:PUnit->Hp->Prop)=>ZB (decide ((↑s1.len:Int)>0)) (ZR p0 λa7=>ZV (cI IntKind.i64) ⟨a7.block,a7.off+5,none⟩ 0 h4 λh6=>J1 PUnit.unit h6) (J1 PUnit.unit h4)) λ(J2:Sl->Hp->Prop)=>ZY (λ(t2:Bool) h7=>ZB t2 (ZR p0 λa8=>ZV cB ⟨a8.block,a8.off+1,none⟩ false h7 λh8=>ZA TP 261 [.int .i64 5,.int .i64 0] ZQ h8 λ(x1:ZP) h9=>ZM (Obj.cells ⟨[.int .i64 x1.Seq,.int .i64 x1.Msg_Kind,.int .i64 x1.Msg_F_0,.int .i64 x1.Msg_F_1,.int .i64 x1.Msg_F_2,.int .i64 x1.Msg_F_3,.int .i64 x1.Msg_F_4,.int .i64 x1.Msg_F_5]⟩ 161) h9 λk1 h10=>Q (⟨some ⟨k1,0,none⟩,1,1⟩,true) h10) (ZY (λ(t3:Bool) h11=>ZB t3 (ZA TP 261 [.int .i64 3,.int .i64 0] ZQ h11 λ(x2:ZP) h12=>ZM (Obj.cells ⟨[.int .i64 x2.Seq,.int .i64 x2.Msg_Kind,.int .i64 x2.Msg_F_0,.int .i64 x2.Msg_F_1,.int .i64 x2.Msg_F_2,.int .i64 x2.Msg_F_3,.int .i64 x2.Msg_F_4,.int .i64 x2.Msg_F_5]⟩ 161) h12 λk2 h13=>J2 ⟨some ⟨k2,0,none⟩,1,1⟩ h13) (ZR p0 λa9=>ZR p0 λa10=>ZC (cI IntKind.i64) ⟨a9.block,a9.off+5,none⟩ h11 λ(n5:Int)=>ZC (cI IntKind.i64) (a10.add 0) h11 λ(n6:Int)=>ZB (decide (n5>=n6)) (ZA TP 261 [.int .i64 2,.int .i64 0] ZQ h11 λ(x3:ZP) h14=>ZM (Obj.cells ⟨[.int .i64 x3.Seq,.int .i64 x3.Msg_Kind,.int .i64 x3.Msg_F_0,.int .i64 x3.Msg_F_1,.int .i64 x3.Msg_F_2,.int .i64 x3.Msg_F_3,.int .i64 x3.Msg_F_4,.int .i64 x3.Msg_F_5]⟩ 161) h14 λk3 h15=>J2 ⟨some ⟨k3,0,none⟩,1,1⟩ h15) (J2 ⟨none,0,0⟩ h11))) λ(J3:Bool->Hp->Prop)=>ZB (n3.tmod n4==0) (ZR p0 λa11=>ZR p0 λa12=>ZC (cI IntKind.i64) ⟨a11.block,a11.off+6,none⟩ h7 λ(n7:Int)=>ZC (cI IntKind.i64) (a12.add 0) h7 λ(n8:Int)=>n8≠0/\J3 (ZXK IntKind.i64 n7 n8==2) h7) (J3 false h7))) λ(J4:Bool->Hp->Prop)=>ZB (n3.tmod n4==0) (ZR p0 λa13=>ZR p0 λa14=>ZC (cI IntKind.i64) ⟨a13.block,a13.off+6,none⟩ h3 λ(n9:Int)=>ZC (cI IntKind.i64) (a14.add 0) h3 λ(n10:Int)=>n10≠0/\J4 (ZXK IntKind.i64 n9 n10==3) h3) (J4 false h3))) λ(J5:Bool->Hp->Prop)=>ZB p0.isNone (J5 true h) (ZR p0 λa15=>ZC cB ⟨a15.block,a15.off+1,none⟩ h λ(t4:Bool)=>J5 (!t4) h)
theorem c182 {p0 h Q} (hk:F182 p0 h Q):ZA TP 182 [.pointer p0] (ZW [cSl,cB]) h Q:=cc a182 n182 hk
def a111:Ann:=mkA 0 [] 0 (bc [])
def n111:An:=(s0 (s0 lf))
def F111 (p0:Option Addr) (h:Hp) (Q:Bool->Hp->Prop):Prop:=ZB (!p0.isNone) (ZR p0 λa1=>ZC cB ⟨a1.block,a1.off+1,none⟩ h λ(t1:Bool)=>Q t1 h) (Q false h)
theorem c111 {p0 h Q} (hk:F111 p0 h Q):ZA TP 111 [.pointer p0] (cB) h Q:=cc a111 n111 hk
def a263:Ann:=mkA 0 [] 0 (bc [])
def n263:An:=(s0 (sq (.join [(12,false,cB)] 8176 r0 (cn (s0 lf) lf)) (sq (rg [0,2,3,6,7,8,9,1,4,10,11,12,5,13,14]) (s0 lf))))
def F263 (p0:ZP) (h:Hp) (Q:Sl->Hp->Prop):Prop:=ZM (Obj.cells ⟨[.int .i64 p0.Seq,.int .i64 p0.Msg_Kind,.int .i64 p0.Msg_F_0,.int .i64 p0.Msg_F_1,.int .i64 p0.Msg_F_2,.int .i64 p0.Msg_F_3,.int .i64 p0.Msg_F_4,.int .i64 p0.Msg_F_5]⟩ 161) h λk1 h1=>ZY (λ(t1:Bool) h2=>ZB t1 (Q ⟨none,0,0⟩ h2) (ZC (cI IntKind.i64) ⟨k1,0,none⟩ h2 λ(n1:Int)=>ZC (cI IntKind.i64) ⟨k1,0+1,none⟩ h2 λ(n2:Int)=>ZC (cI IntKind.i64) ⟨k1,0+1,none⟩ h2 λ(n3:Int)=>ZRZ TP 193 [.int .i64 n3] (cI IntKind.i64) λ(n4:Int)=>ZAI 6 6 none (some n4) λ(k2 k3:Nat)=>ZM (Obj.cells ⟨[.int .i64 n1,.int .i64 n2]⟩ 2) h2 λk4 h3=>ZX (cI IntKind.i64) 2 8 (some ⟨k4,0,none⟩) 2 2 (Zm (some ⟨k1,0+1+1,none⟩) k2 6 1) (k3-k2) h3 λ(p1:Option Addr) (k5 k6:Nat) h4=>ZA TP 315 [.slice p1 k5 k6] cSl h4 λ(s1:Sl) h5=>Q s1 h5)) λ(J1:Bool->Hp->Prop)=>ZC ZAn ⟨k1,0+1,none⟩ h1 λ(x1:Msg)=>ZA TP 129 [.agg ⟨[.int .i64 x1.Kind,.int .i64 x1.F_0,.int .i64 x1.F_1,.int .i64 x1.F_2,.int .i64 x1.F_3,.int .i64 x1.F_4,.int .i64 x1.F_5]⟩] cB h1 λ(t2:Bool) h6=>ZB (!t2) (J1 true h6) (ZC (cI IntKind.i64) ⟨k1,0,none⟩ h6 λ(n5:Int)=>J1 (decide (n5<0)) h6)
theorem c263 {p0 h Q} (hk:F263 p0 h Q):ZA TP 263 [ZQ.enc p0] (cSl) h Q:=cc a263 n263 hk
def a113:Ann:=mkA 2 [(5,1),(9,1),(14,1),(16,1),(17,1),(21,1),(22,1),(30,1),(31,1),(32,1)] 4294967296 (bc [(1,ZQ)])
def n113:An:=(s0 (sq (.join [(13,false,cB)] 16352 r0 (cn (s0 lf) lf)) (s0 (sq (s0 (bk (.loop [(3,false,cSl),(4,false,cI .i64)] 68718428184 (sq (s0 (cn lf lf)) (sq (bk r0) r0))))) (s0 lf)))))
def F113 (p0:ZP) (h:Hp) (Q:Sl->Hp->Prop):Prop:=ZY (λ(t1:Bool) h1=>ZB t1 (Q ⟨none,0,0⟩ h1) (ZM (Obj.cells ⟨[.int .i64 p0.Seq,.int .i64 p0.Msg_Kind]⟩ 2) h1 λk1 h2=>Zj ({a:=some ⟨k1,0,none⟩,len:=2,cap:=2:Sl},0) h2 λ(J1:Sl×Int->Hp->Prop) (z1:Sl×Int) h3=>ZA TP 67 [.int .i64 p0.Msg_Kind] (cI IntKind.i64) h3 λ(n1:Int) h4=>ZB (decide (z1.snd<n1)) (atP 6 z1.snd (ZNb (cI IntKind.i64) [.int .i64 p0.Seq,.int .i64 p0.Msg_Kind,.int .i64 p0.Msg_F_0,.int .i64 p0.Msg_F_1,.int .i64 p0.Msg_F_2,.int .i64 p0.Msg_F_3,.int .i64 p0.Msg_F_4,.int .i64 p0.Msg_F_5] (2+z1.snd.toNat*1) λ(n2:Int)=>ZM (Obj.cells ⟨[.int .i64 n2]⟩ 2) h4 λk2 h5=>ZX (cI IntKind.i64) 2 8 z1.fst.a z1.fst.len z1.fst.cap (some ⟨k2,0,none⟩) 1 h5 λ(p1:Option Addr) (k3 k4:Nat) h6=>J1 (⟨p1,k3,k4⟩,IntKind.i64.wrap (z1.snd+1)) h6)) (ZA TP 187 [.slice z1.fst.a z1.fst.len z1.fst.cap] cSl h4 λ(s1:Sl) h7=>Q s1 h7))) λ(J2:Bool->Hp->Prop)=>ZB (decide (p0.Seq<0)) (J2 true h) (ZA TP 28 [.agg ⟨[.int .i64 p0.Msg_Kind,.int .i64 p0.Msg_F_0,.int .i64 p0.Msg_F_1,.int .i64 p0.Msg_F_2,.int .i64 p0.Msg_F_3,.int .i64 p0.Msg_F_4,.int .i64 p0.Msg_F_5]⟩] cB h λ(t2:Bool) h8=>J2 (!t2) h8)
theorem c113 {p0 h Q} (hk:F113 p0 h Q):ZA TP 113 [ZQ.enc p0] (cSl) h Q:=cc a113 n113 hk
def a129:Ann:=mkA 0 [] 0 (bc [])
def n129:An:=(s0 (s0 (sq (s0 (cn (s0 lf) lf)) (sq (s0 (bk (.loop [(15,false,cI .i64)] 4161572 (s0 (sq (cn lf lf) (sq (bk (s0 (s0 (cn (s0 lf) lf)))) r0)))))) (s0 lf)))))
def F129 (p0:Msg) (h:Hp) (Q:Bool->Hp->Prop):Prop:=ZM (Obj.cells ⟨[.int .i64 p0.Kind,.int .i64 p0.F_0,.int .i64 p0.F_1,.int .i64 p0.F_2,.int .i64 p0.F_3,.int .i64 p0.F_4,.int .i64 p0.F_5]⟩ 59) h λk1 h1=>ZC (cI IntKind.i64) ⟨k1,0,none⟩ h1 λ(n1:Int)=>ZRZ TP 193 [.int .i64 n1] (cI IntKind.i64) λ(n2:Int)=>ZB (decide (n2<0)) (Q false h1) (ZAI 6 6 (some n2) none λ(k2 k3:Nat)=>Zj 0 h1 λ(J1:Int->Hp->Prop) (n3:Int) h2=>ZB (decide (n3<(↑(k3-k2):Int))) (Zl (Zm (some ⟨k1,0+1,none⟩) k2 6 1) (k3-k2) n3 λa1=>ZC (cI IntKind.i64) (a1.add (n3.toNat*1)) h2 λ(n4:Int)=>ZB (n4 != 0) (Q false h2) (J1 (IntKind.i64.wrap (n3+1)) h2)) (Q true h2))
theorem c129 {p0 h Q} (hk:F129 p0 h Q):ZA TP 129 [ZAn.enc p0] (cB) h Q:=cc a129 n129 hk
def a28:Ann:=mkA 2 [(5,1),(15,1),(16,1)] 65536 (bc [(1,ZAn)])
def n28:An:=(s0 (s0 (sq (s0 (bk (.loop [(4,false,cI .i64)] 523284 (sq (s0 (cn lf lf)) (sq (bk (s0 (cn (s0 lf) lf))) r0))))) (s0 lf))))
def F28 (p0:Msg) (h:Hp) (Q:Bool->Hp->Prop):Prop:=ZA TP 67 [.int .i64 p0.Kind] (cI IntKind.i64) h λ(n1:Int) h1=>Zj (ZVA n1 0) h1 λ(J1:Int->Hp->Prop) (n2:Int) h2=>ZB (decide (n2<6)) (atP 6 n2 (ZNb (cI IntKind.i64) [.int .i64 p0.Kind,.int .i64 p0.F_0,.int .i64 p0.F_1,.int .i64 p0.F_2,.int .i64 p0.F_3,.int .i64 p0.F_4,.int .i64 p0.F_5] (1+n2.toNat*1) λ(n3:Int)=>ZB (n3 != 0) (Q false h2) (J1 (IntKind.i64.wrap (n2+1)) h2))) (Q (decide (n1>=0)) h2)
theorem c28 {p0 h Q} (hk:F28 p0 h Q):ZA TP 28 [ZAn.enc p0] (cB) h Q:=cc a28 n28 hk
def a116:Ann:=mkA 0 [] 0 (bc [])
def n116:An:=(sq rX (sq rX (s0 (.join [] 4278190080 (.join [(29,false,cB)] 1056964608 r0 (cn rX lf)) (s0 (.join [] 8246337208320 (s0 (cn rX lf)) (s0 (sq (rg [0,1,2,3,4,5]) (s0 lf)))))))))
def F116 (p0:Sl) (h:Hp) (Q:ZP×Int->Hp->Prop):Prop:=ZM (Obj.cells ⟨[.int .i64 0,.int .i64 0,.int .i64 0,.int .i64 0,.int .i64 0,.int .i64 0,.int .i64 0,.int .i64 0]⟩ 161) h λk1 h1=>ZM (Obj.cells ⟨[.int .i64 0]⟩ 192) h1 λk2 h2=>ZEu TP 192 [.slice p0.a p0.len p0.cap] (ZW [cI IntKind.i64,cSl]) h2 (λ(z1:Int×Sl) h3=>ZEu TP 192 [.slice z1.snd.a z1.snd.len z1.snd.cap] (ZW [cI IntKind.i64,cSl]) h3 (λ(z2:Int×Sl) h4=>ZRZ TP 193 [.int .i64 z2.fst] (cI IntKind.i64) λ(n1:Int)=>ZY (λu1 h5=>ZA TP 194 [.slice p0.a p0.len p0.cap,.int .i64 (IntKind.i64.wrap (2+n1))] (ZW [cSl,cI IntKind.i64]) h5 λ(z3:Sl×Int) h6=>ZY (λu2 h7=>ZV ZQ ⟨k1,0,none⟩ {Seq:=z1.fst,Msg_Kind:=z2.fst,Msg_F_0:=0,Msg_F_1:=0,Msg_F_2:=0,Msg_F_3:=0,Msg_F_4:=0,Msg_F_5:=0:ZP} h7 λh8=>ZAI 6 6 none none λ(k3 k4:Nat)=>ZAI z3.fst.len z3.fst.cap (some 2) none λ(k5 k6:Nat)=>ZBG (cI IntKind.i64) (Zm (some ⟨k1,0+1+1,none⟩) k3 6 1) (k4-k3) (Zm z3.fst.a k5 z3.fst.cap 1) (k6-k5) h8 λ(n2:Int) h9=>ZC ZQ ⟨k1,0,none⟩ h9 λ(x1:ZP)=>ZV ZQ ⟨k1,0,none⟩ x1 h9 λh10=>ZV (cI IntKind.i64) ⟨k2,0,none⟩ 0 h10 λh11=>ZBw TP 191 [.pointer (some ⟨k1,0,none⟩),.pointer (some ⟨k2,0,none⟩)] none h11 λh12=>ZC ZQ ⟨k1,0,none⟩ h12 λ(x2:ZP)=>ZC (cI IntKind.i64) ⟨k2,0,none⟩ h12 λ(n3:Int)=>Q (x2,n3) h12) λ(J1:PUnit->Hp->Prop)=>ZB (z3.snd != 0) (ZBw TP 191 [.pointer (some ⟨k1,0,none⟩),.pointer (some ⟨k2,0,none⟩)] (some (.iface 293 (.agg ⟨[]⟩))) h6 λh13=>ZC ZQ ⟨k1,0,none⟩ h13 λ(x3:ZP)=>ZC (cI IntKind.i64) ⟨k2,0,none⟩ h13 λ(n4:Int)=>Q (x3,n4) h13) (J1 PUnit.unit h6)) λ(J2:PUnit->Hp->Prop)=>ZY (λ(t1:Bool) h14=>ZB t1 (ZBw TP 191 [.pointer (some ⟨k1,0,none⟩),.pointer (some ⟨k2,0,none⟩)] (some (.iface 293 (.agg ⟨[]⟩))) h14 λh15=>ZC ZQ ⟨k1,0,none⟩ h15 λ(x4:ZP)=>ZC (cI IntKind.i64) ⟨k2,0,none⟩ h15 λ(n5:Int)=>Q (x4,n5) h15) (J2 PUnit.unit h14)) λ(J3:Bool->Hp->Prop)=>ZB (decide (z1.fst<0)) (J3 true h4) (J3 (decide (n1<0)) h4)) λ(x5:Value) h16=>ZBw TP 191 [.pointer (some ⟨k1,0,none⟩),.pointer (some ⟨k2,0,none⟩)] (some x5) h16 λh17=>ZC ZQ ⟨k1,0,none⟩ h17 λ(x6:ZP)=>ZC (cI IntKind.i64) ⟨k2,0,none⟩ h17 λ(n6:Int)=>Q (x6,n6) h17) λ(x7:Value) h18=>ZBw TP 191 [.pointer (some ⟨k1,0,none⟩),.pointer (some ⟨k2,0,none⟩)] (some x7) h18 λh19=>ZC ZQ ⟨k1,0,none⟩ h19 λ(x8:ZP)=>ZC (cI IntKind.i64) ⟨k2,0,none⟩ h19 λ(n7:Int)=>Q (x8,n7) h19
theorem e116 (p0:Sl) (h:Hp) (Q:ZP×Int->Hp->Prop):ZZ0 a116 TP 116 n116 (ZW [ZQ,cI .i64]) [Value.slice p0.a p0.len p0.cap] h Q=F116 p0 h Q:=by kernel_rfl
theorem c116 {p0:Sl} {h:Hp} {Q:ZP×Int->Hp->Prop} (hk:F116 p0 h Q):ZA TP 116 [Value.slice p0.a p0.len p0.cap] (ZW [ZQ,cI .i64]) h Q:=ZKj (ZDi ZDd ZFh ZFi rfl (by kernel_rfl)) ZFr ((e116 p0 h Q).mpr hk)
def a67:Ann:=mkA 0 [] 0 (bc [])
def n67:An:=(s0 (s0 (sq (.join [(12,false,cB)] 8160 r0 (cn (s0 lf) lf)) (s0 lf))))
def F67 (p0:Int) (h:Hp) (Q:Int->Hp->Prop):Prop:=ZM (Obj.cells ⟨[.int .i64 (-1),.int .i64 1,.int .i64 0,.int .i64 0,.int .i64 1,.int .i64 0,.int .i64 5,.int .i64 1,.int .i64 3,.int .i64 5,.int .i64 3,.int .i64 1,.int .i64 1,.int .i64 1,.int .i64 1,.int .i64 1,.int .i64 1,.int .i64 2,.int .i64 2,.int .i64 2,.int .i64 4,.int .i64 2,.int .i64 5,.int .i64 4,.int .i64 3,.int .i64 2,.int .i64 2,.int .i64 1,.int .i64 6]⟩ 3) h λk1 h1=>ZY (λ(t1:Bool) h2=>ZB t1 (Q (-1) h2) (Zl (some ⟨k1,0,none⟩) 29 p0 λa1=>ZC (cI IntKind.i64) (a1.add (p0.toNat*1)) h2 λ(n1:Int)=>Q n1 h2)) λ(J1:Bool->Hp->Prop)=>ZB (decide (p0<0)) (J1 true h1) (J1 (decide (p0>=29)) h1)
theorem c67 {p0 h Q} (hk:F67 p0 h Q):ZA TP 67 [.int .i64 p0] (cI .i64) h Q:=cc a67 n67 hk
def a193:Ann:=mkA 0 [] 0 (bc [])
def n193:An:=(s0 (sq (s0 (bk (.join [(4,false,cB)] 240 (s0 (cn lf (s0 (cn lf r0)))) (cn (s0 lf) (.join [(8,false,cB)] 524032 (s0 (cn lf (s0 (cn lf (s0 (cn lf (s0 (cn lf (s0 (cn lf (s0 (cn lf (s0 (cn lf (s0 (cn lf (s0 (cn lf r0)))))))))))))))))) (cn (s0 lf) (.join [(19,false,cB)] 66584576 (s0 (cn lf (s0 (cn lf (s0 (cn lf (s0 (cn lf (s0 (cn lf r0)))))))))) (cn (s0 lf) (.join [(26,false,cB)] 1006632960 (s0 (cn lf (s0 (cn lf r0)))) (cn (s0 lf) (.join [(30,false,cB)] 7516192768 (s0 (cn lf r0)) (cn (s0 lf) (.join [(33,false,cB)] 128849018880 (s0 (cn lf (s0 (cn lf r0)))) (cn (s0 lf) (s0 (cn (s0 lf) lf)))))))))))))))) (s0 lf)))
def F193 (p0:Int) (h:Hp) (Q:Int->Hp->Prop):Prop:=ZY (λ(t1:Bool) h1=>ZB t1 (Q 0 h1) (ZY (λ(t2:Bool) h2=>ZB t2 (Q 1 h2) (ZY (λ(t3:Bool) h3=>ZB t3 (Q 2 h3) (ZY (λ(t4:Bool) h4=>ZB t4 (Q 3 h4) (ZY (λ(t5:Bool) h5=>ZB t5 (Q 4 h5) (ZY (λ(t6:Bool) h6=>ZB t6 (Q 5 h6) (ZB (p0==28) (Q 6 h6) (Q (-1) h6))) λ(J1:Bool->Hp->Prop)=>ZB (p0==6) (J1 (p0==6) h5) (ZB (p0==9) (J1 (p0==9) h5) (J1 (p0==22) h5)))) λ(J2:Bool->Hp->Prop)=>ZB (p0==20) (J2 (p0==20) h4) (J2 (p0==23) h4))) λ(J3:Bool->Hp->Prop)=>ZB (p0==8) (J3 (p0==8) h3) (ZB (p0==10) (J3 (p0==10) h3) (J3 (p0==24) h3)))) λ(J4:Bool->Hp->Prop)=>ZB (p0==17) (J4 (p0==17) h2) (ZB (p0==18) (J4 (p0==18) h2) (ZB (p0==19) (J4 (p0==19) h2) (ZB (p0==21) (J4 (p0==21) h2) (ZB (p0==25) (J4 (p0==25) h2) (J4 (p0==26) h2))))))) λ(J5:Bool->Hp->Prop)=>ZB (p0==1) (J5 (p0==1) h1) (ZB (p0==4) (J5 (p0==4) h1) (ZB (p0==7) (J5 (p0==7) h1) (ZB (p0==11) (J5 (p0==11) h1) (ZB (p0==12) (J5 (p0==12) h1) (ZB (p0==13) (J5 (p0==13) h1) (ZB (p0==14) (J5 (p0==14) h1) (ZB (p0==15) (J5 (p0==15) h1) (ZB (p0==16) (J5 (p0==16) h1) (J5 (p0==27) h1))))))))))) λ(J6:Bool->Hp->Prop)=>ZB (p0==2) (J6 (p0==2) h) (ZB (p0==3) (J6 (p0==3) h) (J6 (p0==5) h))
theorem c193 {p0 h Q} (hk:F193 p0 h Q):ZA TP 193 [.int .i64 p0] (cI .i64) h Q:=cc a193 n193 hk
def a318:Ann:=mkA 0 [] 0 (bc [])
def n318:An:=(s0 (s0 lf))
def F318 (p0:Int) (h:Hp) (Q:Bool->Hp->Prop):Prop:=ZB (decide (p0>=1)) (Q (decide (p0<=5)) h) (Q false h)
theorem c318 {p0 h Q} (hk:F318 p0 h Q):ZA TP 318 [.int .i64 p0] (cB) h Q:=cc a318 n318 hk
def a128:Ann:=mkA 0 [] 0 (bc [])
def n128:An:=(s0 (s0 lf))
def F128 (p0:Int) (h:Hp) (Q:Bool->Hp->Prop):Prop:=ZB (decide (p0>=6)) (Q (decide (p0<=17)) h) (Q false h)
theorem c128 {p0 h Q} (hk:F128 p0 h Q):ZA TP 128 [.int .i64 p0] (cB) h Q:=cc a128 n128 hk
def a267:Ann:=mkA 24 [(14,3)] 0 (bc [(3,ZAn),(4,ZQ)])
def n267:An:=(s0 (sq (.join [(17,false,cB)] 262080 r0 (cn (s0 lf) lf)) (.join [] 66584576 (s0 (cn r0 lf)) (sq (.reg [(0,[]),(1,[]),(2,[]),(4,[]),(6,[]),(7,[]),(8,[]),(3,[]),(9,[]),(5,[9]),(10,[]),(11,[])]) lf))))
def F267 (p0:Option Addr) (p1:Msg) (h:Hp) (Q:ZP×Bool->Hp->Prop):Prop:=ZY (λ(t1:Bool) h1=>ZB t1 (Q ({Seq:=0,Msg_Kind:=0,Msg_F_0:=0,Msg_F_1:=0,Msg_F_2:=0,Msg_F_3:=0,Msg_F_4:=0,Msg_F_5:=0:ZP},false) h1) (ZY (λu1 h2=>ZR p0 λa1=>ZR p0 λa2=>ZC cP ⟨a1.block,a1.off+3,none⟩ h2 λ(p1_1:Option Addr)=>ZC cB ⟨a2.block,a2.off+1,none⟩ h2 λ(t2:Bool)=>ZA TP 319 [.pointer p1_1,.agg ⟨[.int .i64 p1.Kind,.int .i64 p1.F_0,.int .i64 p1.F_1,.int .i64 p1.F_2,.int .i64 p1.F_3,.int .i64 p1.F_4,.int .i64 p1.F_5]⟩] ZQ h2 λ(x1:ZP) h3=>(h3.rds ⟨a2.block,a2.off+1,none⟩ [.bool t2]/\True)/\Q (x1,t2) h3) λ(J1:PUnit->Hp->Prop)=>ZR p0 λa3=>ZC cB ⟨a3.block,a3.off+1,none⟩ h1 λ(t3:Bool)=>ZB t3 (ZR p0 λa4=>ZV (cI IntKind.i64) ⟨a4.block,a4.off+5,none⟩ 0 h1 λh4=>J1 PUnit.unit h4) (J1 PUnit.unit h1))) λ(J2:Bool->Hp->Prop)=>ZB p0.isNone (J2 true h) (ZA TP 129 [.agg ⟨[.int .i64 p1.Kind,.int .i64 p1.F_0,.int .i64 p1.F_1,.int .i64 p1.F_2,.int .i64 p1.F_3,.int .i64 p1.F_4,.int .i64 p1.F_5]⟩] cB h λ(t4:Bool) h5=>ZB (!t4) (J2 true h5) (ZA TP 318 [.int .i64 p1.Kind] cB h5 λ(t5:Bool) h6=>J2 t5 h6))
theorem c267 {p0 p1 h Q} (hk:F267 p0 p1 h Q):ZA TP 267 [.pointer p0,ZAn.enc p1] (ZW [ZQ,cB]) h Q:=cc a267 n267 hk
def a109:Ann:=mkA 0 [] 0 (bc [])
def n109:An:=(s0 (sq (.join [(11,false,cB)] 4088 r0 (cn (s0 lf) lf)) (s0 (s0 lf))))
def F109 (p0:Option Addr) (h:Hp) (Q:Bool->Hp->Prop):Prop:=ZY (λ(t1:Bool) h1=>ZB t1 (Q false h1) (ZR p0 λa1=>ZV cB ⟨a1.block,a1.off+1,none⟩ false h1 λh2=>Q true h2)) λ(J1:Bool->Hp->Prop)=>ZB p0.isNone (J1 true h) (ZR p0 λa2=>ZC cB ⟨a2.block,a2.off+1,none⟩ h λ(t2:Bool)=>J1 (!t2) h)
theorem c109 {p0 h Q} (hk:F109 p0 h Q):ZA TP 109 [.pointer p0] (cB) h Q:=cc a109 n109 hk
def a265:Ann:=mkA 0 [] 0 (bc [])
def n265:An:=(s0 (s0 (s0 (sq (s0 (cn (s0 lf) lf)) (s0 (s0 lf))))))
def F265 (p0:Option Addr) (p1:Int) (h:Hp) (Q:Sl×Bool->Hp->Prop):Prop:=ZR p0 λa1=>ZC cP ⟨a1.block,a1.off+3,none⟩ h λ(p1_1:Option Addr)=>ZA TP 316 [.pointer p1_1,.int .i64 p1] (ZW [cSl,cB]) h λ(z1:Sl×Bool) h1=>ZR p0 λa2=>ZV cB ⟨a2.block,a2.off+1,none⟩ z1.snd h1 λh2=>ZB (!z1.snd) (Q (⟨none,0,0⟩,false) h2) (ZR p0 λa3=>ZV (cI IntKind.i64) ⟨a3.block,a3.off+6,none⟩ 0 h2 λh3=>ZR p0 λa4=>ZV (cI IntKind.i64) ⟨a4.block,a4.off+4,none⟩ 0 h3 λh4=>ZR p0 λa5=>ZC (cI IntKind.i64) ⟨a5.block,a5.off+2,none⟩ h4 λ(n1:Int)=>ZA TP 261 [.int .i64 1,.int .i64 n1] ZQ h4 λ(x1:ZP) h5=>ZM (Obj.cells ⟨[.int .i64 x1.Seq,.int .i64 x1.Msg_Kind,.int .i64 x1.Msg_F_0,.int .i64 x1.Msg_F_1,.int .i64 x1.Msg_F_2,.int .i64 x1.Msg_F_3,.int .i64 x1.Msg_F_4,.int .i64 x1.Msg_F_5]⟩ 161) h5 λk1 h6=>ZX ZQ 161 64 (some ⟨k1,0,none⟩) 1 1 z1.fst.a z1.fst.len h6 λ(p2:Option Addr) (k2 k3:Nat) h7=>Q (⟨p2,k2,k3⟩,true) h7)
theorem c265 {p0 p1 h Q} (hk:F265 p0 p1 h Q):ZA TP 265 [.pointer p0,.int .i64 p1] (ZW [cSl,cB]) h Q:=cc a265 n265 hk
def a266:Ann:=mkA 40 [(8,3),(12,3),(17,3),(18,3),(24,3),(38,3),(41,3)] 0 (bc [(3,ZQ),(5,ZAn)])
def n266:An:=(s0 (sq (bk (s0 (cn (s0 lf) (s0 (cn (s0 lf) (sq (rg [0,1,2,3,4,5,6,7]) (cn (s0 (sq (rg [0,1,2,3,4]) lf)) (.join [(40,false,cB)] 576459652791795712 (rg [0,1,2,3,4,5,6,7,8,9,10,12,13,14,11,15,16,17,18]) (cn (s0 (s0 lf)) lf))))))))) (s0 lf)))
def F266 (p0:Option Addr) (p1:ZP) (h:Hp) (Q:Sl×Msg×Bool->Hp->Prop):Prop:=ZB (p1.Seq==0) (ZA TP 317 [.pointer p0,.agg ⟨[.int .i64 p1.Msg_Kind,.int .i64 p1.Msg_F_0,.int .i64 p1.Msg_F_1,.int .i64 p1.Msg_F_2,.int .i64 p1.Msg_F_3,.int .i64 p1.Msg_F_4,.int .i64 p1.Msg_F_5]⟩] cSl h λ(s1:Sl) h1=>Q (s1,{Kind:=0,F_0:=0,F_1:=0,F_2:=0,F_3:=0,F_4:=0,F_5:=0:Msg},false) h1) (ZA TP 128 [.int .i64 p1.Msg_Kind] cB h λ(t1:Bool) h2=>ZB (!t1) (Q (⟨none,0,0⟩,{Kind:=0,F_0:=0,F_1:=0,F_2:=0,F_3:=0,F_4:=0,F_5:=0:Msg},false) h2) (ZR p0 λa1=>ZC (cI IntKind.i64) ⟨a1.block,a1.off+2,none⟩ h2 λ(n1:Int)=>ZB (p1.Seq==n1) (ZR p0 λa2=>ZC (cI IntKind.i64) ⟨a2.block,a2.off+2,none⟩ h2 λ(n2:Int)=>ZR p0 λa3=>ZV (cI IntKind.i64) ⟨a3.block,a3.off+2,none⟩ (IntKind.i64.wrap (n2+1)) h2 λh3=>Q (⟨none,0,0⟩,{Kind:=p1.Msg_Kind,F_0:=p1.Msg_F_0,F_1:=p1.Msg_F_1,F_2:=p1.Msg_F_2,F_3:=p1.Msg_F_3,F_4:=p1.Msg_F_4,F_5:=p1.Msg_F_5:Msg},true) h3) (ZY (λ(t2:Bool) h4=>ZB t2 (ZR p0 λa4=>ZC (cI IntKind.i64) ⟨a4.block,a4.off+2,none⟩ h4 λ(n3:Int)=>ZR p0 λa5=>ZV (cI IntKind.i64) ⟨a5.block,a5.off+4,none⟩ n3 h4 λh5=>ZR p0 λa6=>ZC (cI IntKind.i64) ⟨a6.block,a6.off+2,none⟩ h5 λ(n4:Int)=>ZA TP 261 [.int .i64 4,.int .i64 n4] ZQ h5 λ(x1:ZP) h6=>ZM (Obj.cells ⟨[.int .i64 x1.Seq,.int .i64 x1.Msg_Kind,.int .i64 x1.Msg_F_0,.int .i64 x1.Msg_F_1,.int .i64 x1.Msg_F_2,.int .i64 x1.Msg_F_3,.int .i64 x1.Msg_F_4,.int .i64 x1.Msg_F_5]⟩ 161) h6 λk1 h7=>Q (⟨some ⟨k1,0,none⟩,1,1⟩,{Kind:=0,F_0:=0,F_1:=0,F_2:=0,F_3:=0,F_4:=0,F_5:=0:Msg},false) h7) (Q (⟨none,0,0⟩,{Kind:=0,F_0:=0,F_1:=0,F_2:=0,F_3:=0,F_4:=0,F_5:=0:Msg},false) h4)) λ(J1:Bool->Hp->Prop)=>ZR p0 λa7=>ZC (cI IntKind.i64) ⟨a7.block,a7.off+2,none⟩ h2 λ(n5:Int)=>ZB (decide (p1.Seq>n5)) (ZR p0 λa8=>ZR p0 λa9=>ZC (cI IntKind.i64) ⟨a8.block,a8.off+4,none⟩ h2 λ(n6:Int)=>ZC (cI IntKind.i64) ⟨a9.block,a9.off+2,none⟩ h2 λ(n7:Int)=>J1 (n6 != n7) h2) (J1 false h2))))
theorem c266 {p0 p1 h Q} (hk:F266 p0 p1 h Q):ZA TP 266 [.pointer p0,ZQ.enc p1] (ZW [cSl,ZAn,cB]) h Q:=cc a266 n266 hk
def a261:Ann:=mkA 48 [(9,5),(10,5)] 0 (bc [(4,ZQ),(5,ZAn)])
def n261:An:=(s0 (s0 (s0 (s0 lf))))
def F261 (p0:Int) (p1:Int) (h:Hp) (Q:ZP->Hp->Prop):Prop:=atP 6 0 (Q {Seq:=0,Msg_Kind:=p0,Msg_F_0:=p1,Msg_F_1:=0,Msg_F_2:=0,Msg_F_3:=0,Msg_F_4:=0,Msg_F_5:=0:ZP} h)
theorem c261 {p0 p1 h Q} (hk:F261 p0 p1 h Q):ZA TP 261 [.int .i64 p0,.int .i64 p1] (ZQ) h Q:=cc a261 n261 hk
def a191:Ann:=mkA 8 [] 0 (bc [(3,ZJj)])
def n191:An:=(sq rX (cn (.join [] 65304 (sq rX (s0 (cn rX lf))) r0) lf))
def F191_0 (p0:Addr) (p1:Addr) (h:Hp) (K:Hp->Prop):Prop:=K h
theorem e191_0 (p0:Addr) (p1:Addr) (h:Hp) (K:Hp->Prop):ZPH a191 TP 191 n191 [Value.pointer (some p0),Value.pointer (some p1)] (none) h K=F191_0 p0 p1 h K:=by kernel_rfl
theorem c191_0 {p0:Addr} {p1:Addr} {h:Hp} {K:Hp->Prop} (hk:F191_0 p0 p1 h K):ZBw TP 191 [Value.pointer (some p0),Value.pointer (some p1)] (none) h K:=ZEQ (ZDi ZDd ZFh ZFi rfl (by kernel_rfl)) ZFr ((e191_0 p0 p1 h K).mpr hk)
def F191_1 (p0:Addr) (p1:Addr) (h:Hp) (K:Hp->Prop):Prop:=ZY (λu1 h1=>ZV ZQ p0 {Seq:=0,Msg_Kind:=0,Msg_F_0:=0,Msg_F_1:=0,Msg_F_2:=0,Msg_F_3:=0,Msg_F_4:=0,Msg_F_5:=0:ZP} h1 λh2=>ZV (cI IntKind.i64) p1 2 h2 λh3=>K h3) λ(J1:PUnit->Hp->Prop)=>J1 PUnit.unit h
theorem e191_1 (p0:Addr) (p1:Addr) (h:Hp) (K:Hp->Prop):ZPH a191 TP 191 n191 [Value.pointer (some p0),Value.pointer (some p1)] (some (.iface 293 (.agg #[]))) h K=F191_1 p0 p1 h K:=by kernel_rfl
theorem c191_1 {p0:Addr} {p1:Addr} {h:Hp} {K:Hp->Prop} (hk:F191_1 p0 p1 h K):ZBw TP 191 [Value.pointer (some p0),Value.pointer (some p1)] (some (.iface 293 (.agg #[]))) h K:=ZEQ (ZDi ZDd ZFh ZFi rfl (by kernel_rfl)) ZFr ((e191_1 p0 p1 h K).mpr hk)
def a192:Ann:=mkA 0 [] 0 (bc [])
def n192:An:=(s0 (s0 (.join [] 122880 (s0 (cn rX lf)) (sq (rg [0,1,2,3,4,5]) lf))))
def F192 (p0:Sl) (h:Hp) (Q:Int×Sl->Hp->Prop) (S:Value->Hp->Prop):Prop:=ZA TP 274 [.slice p0.a p0.len p0.cap] (ZW [cI IntKind.i64,cI IntKind.i64,cB]) h λ(z1:Int×Int×Bool) h1=>ZY (λu1 h2=>ZAI p0.len p0.cap (some z1.snd.fst) none λ(k1 k2:Nat)=>Q (z1.fst,⟨Zm p0.a k1 p0.cap 1,k2-k1,p0.cap-k1⟩) h2) λ(J1:PUnit->Hp->Prop)=>ZB (!z1.snd.snd) (S (.iface 293 (.agg ⟨[]⟩)) h1) (J1 PUnit.unit h1)
theorem e192 (p0:Sl) (h:Hp) (Q:Int×Sl->Hp->Prop) (S:Value->Hp->Prop):fnX a192 TP 192 n192 (ZW [cI .i64,cSl]) [Value.slice p0.a p0.len p0.cap] h Q S=F192 p0 h Q S:=by kernel_rfl
theorem c192 {p0:Sl} {h:Hp} {Q:Int×Sl->Hp->Prop} {S:Value->Hp->Prop} (hk:F192 p0 h Q S):ZEu TP 192 [Value.slice p0.a p0.len p0.cap] (ZW [cI .i64,cSl]) h Q S:=ZOZ (ZDi ZDd ZFh ZFi rfl (by kernel_rfl)) ZFr ((e192 p0 h Q S).mpr hk)
def a317:Ann:=mkA 8 [(9,3),(15,3),(16,3),(33,3),(34,3)] 0 (bc [(3,ZAn)])
def n317:An:=(s0 (sq (s0 (.blockJ [] 4503599627368944 (s0 (cn (s0 (s0 lf)) (s0 (cn (s0 lf) (s0 (cn (sq (rg [0,1,2,4,5,6,3,7,8,9,10,11,12]) (sq (s0 (cn (s0 (s0 lf)) lf)) (s0 lf))) (s0 (cn r0 lf)))))))))) (s0 lf)))
def F317 (p0:Option Addr) (p1:Msg) (h:Hp) (Q:Sl->Hp->Prop):Prop:=ZY (λu1 h1=>Q ⟨none,0,0⟩ h1) λ(J1:PUnit->Hp->Prop)=>ZB (p1.Kind==1) (atP 6 0 (ZA TP 265 [.pointer p0,.int .i64 p1.F_0] (ZW [cSl,cB]) h λ(z1:Sl×Bool) h2=>Q z1.fst h2)) (ZB (p1.Kind==3) (ZA TP 261 [.int .i64 2,.int .i64 0] ZQ h λ(x1:ZP) h3=>ZM (Obj.cells ⟨[.int .i64 x1.Seq,.int .i64 x1.Msg_Kind,.int .i64 x1.Msg_F_0,.int .i64 x1.Msg_F_1,.int .i64 x1.Msg_F_2,.int .i64 x1.Msg_F_3,.int .i64 x1.Msg_F_4,.int .i64 x1.Msg_F_5]⟩ 161) h3 λk1 h4=>Q ⟨some ⟨k1,0,none⟩,1,1⟩ h4) (ZB (p1.Kind==4) (ZR p0 λa1=>atP 6 0 (ZC cP ⟨a1.block,a1.off+3,none⟩ h λ(p1_1:Option Addr)=>ZA TP 316 [.pointer p1_1,.int .i64 p1.F_0] (ZW [cSl,cB]) h λ(z2:Sl×Bool) h5=>ZB (!z2.snd) (ZR p0 λa2=>ZV cB ⟨a2.block,a2.off+1,none⟩ false h5 λh6=>ZA TP 261 [.int .i64 5,.int .i64 0] ZQ h6 λ(x2:ZP) h7=>ZM (Obj.cells ⟨[.int .i64 x2.Seq,.int .i64 x2.Msg_Kind,.int .i64 x2.Msg_F_0,.int .i64 x2.Msg_F_1,.int .i64 x2.Msg_F_2,.int .i64 x2.Msg_F_3,.int .i64 x2.Msg_F_4,.int .i64 x2.Msg_F_5]⟩ 161) h7 λk2 h8=>Q ⟨some ⟨k2,0,none⟩,1,1⟩ h8) (Q z2.fst h5))) (ZB (p1.Kind==5) (ZR p0 λa3=>ZV cB ⟨a3.block,a3.off+1,none⟩ false h λh9=>J1 PUnit.unit h9) (J1 PUnit.unit h))))
theorem c317 {p0 p1 h Q} (hk:F317 p0 p1 h Q):ZA TP 317 [.pointer p0,ZAn.enc p1] (cSl) h Q:=cc a317 n317 hk
end Go.Proofs.YtkmniidiifpdgaaGreat
set_option maxRecDepth 20000
namespace Go.Proofs.YtkmniidiifpdgaaGreat
open Go.Eng
def a60:Ann:=mkA 0 [] 0 (bc [])
def n60:An:=(s0 (s0 (sq (s0 (cn (s0 lf) lf)) (s0 lf))))
def F60 (p0:Int) (h:Hp) (Q:Option Addr->Hp->Prop):Prop:=ZA TP 104 [.int .i64 p0] cP h λ(p1:Option Addr) h1=>ZB p1.isNone (Q none h1) (ZA TP 105 [] cP h1 λ(p2:Option Addr) h2=>ZA TP 106 [.int .i64 256] cP h2 λ(p3:Option Addr) h3=>ZM (Obj.cells ⟨[.pointer p2,.pointer p1,.pointer p3]⟩ 223) h3 λk1 h4=>Q (some ⟨k1,0,none⟩) h4)
theorem c60 {p0 h Q} (hk:F60 p0 h Q):ZA TP 60 [.int .i64 p0] (cP) h Q:=cc a60 n60 hk
def a108:Ann:=mkA 2304 [(59,8)] 0 (bc [(8,ZQ),(11,ZAn)])
def n108:An:=(s0 (sq (s0 (cn (s0 lf) lf)) (sq (s0 (bk (.loop [(4,false,cSl),(5,false,cB),(24,false,cI .i64)] 73786976294821461936 (s0 (sq (cn lf lf) (sq (.blockJ [(4,false,cSl),(5,false,cB)] 36893488147352027056 (s0 (s0 (sq (s0 (cn lf lf)) (sq (rg [0,1,2,4,11,3,5,6,7,8,9,10,12,13,14,15]) (s0 (.join [(5,false,cB)] 143552238122434592 r0 (s0 (cn r0 lf))))))))) r0)))))) (s0 lf))))
def F108 (p0:Option Addr) (p1:Sl) (h:Hp) (Q:Sl×Bool->Hp->Prop):Prop:=ZB p0.isNone (Q (⟨none,0,0⟩,false) h) (ZR p0 λa1=>ZC cP (a1.add 0) h λ(p1_1:Option Addr)=>ZA TP 115 [.pointer p1_1,.slice p1.a p1.len p1.cap] cSl h λ(s1:Sl) h1=>Zj ({a:=none,len:=0,cap:=0:Sl},false,0) h1 λ(J1:Sl×Bool×Int->Hp->Prop) (z1:Sl×Bool×Int) h2=>ZB (decide (z1.snd.snd<(↑s1.len:Int))) (ZY (λ(z2:Sl×Bool) h3=>J1 (z2.fst,z2.snd,IntKind.i64.wrap (z1.snd.snd+1)) h3) λ(J2:Sl×Bool->Hp->Prop)=>Zl s1.a s1.len z1.snd.snd λa2=>ZC cSl (a2.add (z1.snd.snd.toNat*1)) h2 λ(s2:Sl)=>ZA TP 116 [.slice s2.a s2.len s2.cap] (ZW [ZQ,cI IntKind.i64]) h2 λ(z3:ZP×Int) h4=>ZB (z3.snd != 0) (J2 (z1.fst,z1.snd.fst) h4) (ZR p0 λa3=>ZC cP ⟨a3.block,a3.off+1,none⟩ h4 λ(p2:Option Addr)=>ZA TP 184 [.pointer p2,.agg ⟨[.int .i64 z3.fst.Seq,.int .i64 z3.fst.Msg_Kind,.int .i64 z3.fst.Msg_F_0,.int .i64 z3.fst.Msg_F_1,.int .i64 z3.fst.Msg_F_2,.int .i64 z3.fst.Msg_F_3,.int .i64 z3.fst.Msg_F_4,.int .i64 z3.fst.Msg_F_5]⟩] (ZW [cSl,ZAn,cB,cB]) h4 λ(z4:Sl×Msg×Bool×Bool) h5=>ZA TP 183 [.pointer p0,.slice z4.fst.a z4.fst.len z4.fst.cap] cB h5 λ(t1:Bool) h6=>ZY (λ(t2:Bool) h7=>ZB z4.snd.snd.fst (ZM (Obj.cells ⟨[.int .i64 z3.fst.Seq,.int .i64 z4.snd.fst.Kind,.int .i64 z4.snd.fst.F_0,.int .i64 z4.snd.fst.F_1,.int .i64 z4.snd.fst.F_2,.int .i64 z4.snd.fst.F_3,.int .i64 z4.snd.fst.F_4,.int .i64 z4.snd.fst.F_5]⟩ 161) h7 λk1 h8=>ZX ZQ 161 64 z1.fst.a z1.fst.len z1.fst.cap (some ⟨k1,0,none⟩) 1 h8 λ(p3:Option Addr) (k2 k3:Nat) h9=>J2 (⟨p3,k2,k3⟩,t2) h9) (J2 (z1.fst,t2) h7)) λ(J3:Bool->Hp->Prop)=>ZB z1.snd.fst (J3 true h6) (ZB z4.snd.snd.snd (J3 true h6) (J3 (!t1) h6)))) (Q (z1.fst,z1.snd.fst) h2))
theorem c108 {p0 p1 h Q} (hk:F108 p0 p1 h Q):ZA TP 108 [.pointer p0,.slice p1.a p1.len p1.cap] (ZW [cSl,cB]) h Q:=cc a108 n108 hk
def a114:Ann:=mkA 0 [] 0 (bc [])
def n114:An:=(s0 (sq (s0 (cn (s0 lf) lf)) (s0 (bk (.loop [(3,false,cSl)] 8388412 (bk (s0 (sq (s0 (cn (s0 lf) lf)) r0))))))))
def F114 (p0:Option Addr) (h:Hp) (Q:Sl->Hp->Prop):Prop:=ZB p0.isNone (Q ⟨none,0,0⟩ h) (Zj {a:=none,len:=0,cap:=0:Sl} h λ(J1:Sl->Hp->Prop) (s1:Sl) h1=>ZR p0 λa1=>ZC cP ⟨a1.block,a1.off+2,none⟩ h1 λ(p1:Option Addr)=>ZA TP 188 [.pointer p1] (ZW [cSl,cB]) h1 λ(z1:Sl×Bool) h2=>ZB (!z1.snd) (Q s1 h2) (ZM (Obj.cells ⟨[.slice z1.fst.a z1.fst.len z1.fst.cap]⟩ 85) h2 λk1 h3=>ZX cSl 85 24 s1.a s1.len s1.cap (some ⟨k1,0,none⟩) 1 h3 λ(p2:Option Addr) (k2 k3:Nat) h4=>J1 ⟨p2,k2,k3⟩ h4))
theorem c114 {p0 h Q} (hk:F114 p0 h Q):ZA TP 114 [.pointer p0] (cSl) h Q:=cc a114 n114 hk
def a66:Ann:=mkA 0 [] 0 (bc [])
def n66:An:=(s0 (s0 lf))
def F66 (p0:Option Addr) (h:Hp) (Q:Bool->Hp->Prop):Prop:=ZB (!p0.isNone) (ZR p0 λa1=>ZC cP ⟨a1.block,a1.off+1,none⟩ h λ(p1:Option Addr)=>ZA TP 111 [.pointer p1] cB h λ(t1:Bool) h1=>Q t1 h1) (Q false h)
theorem c66 {p0 h Q} (hk:F66 p0 h Q):ZA TP 66 [.pointer p0] (cB) h Q:=cc a66 n66 hk
def a185:Ann:=mkA 40 [] 0 (bc [(3,ZAn),(5,ZQ)])
def n185:An:=(s0 (sq (s0 (cn (s0 lf) lf)) (sq (rg [0,1,2,4,9,3,5,6,7,8,10,11]) (s0 lf))))
def F185 (p0:Option Addr) (p1:Msg) (h:Hp) (Q:Bool->Hp->Prop):Prop:=ZB p0.isNone (Q false h) (ZR p0 λa1=>ZC cP ⟨a1.block,a1.off+1,none⟩ h λ(p1_1:Option Addr)=>ZA TP 267 [.pointer p1_1,.agg ⟨[.int .i64 p1.Kind,.int .i64 p1.F_0,.int .i64 p1.F_1,.int .i64 p1.F_2,.int .i64 p1.F_3,.int .i64 p1.F_4,.int .i64 p1.F_5]⟩] (ZW [ZQ,cB]) h λ(z1:ZP×Bool) h1=>ZB z1.snd (ZM (Obj.cells ⟨[.int .i64 z1.fst.Seq,.int .i64 z1.fst.Msg_Kind,.int .i64 z1.fst.Msg_F_0,.int .i64 z1.fst.Msg_F_1,.int .i64 z1.fst.Msg_F_2,.int .i64 z1.fst.Msg_F_3,.int .i64 z1.fst.Msg_F_4,.int .i64 z1.fst.Msg_F_5]⟩ 161) h1 λk1 h2=>ZA TP 183 [.pointer p0,.slice (some ⟨k1,0,none⟩) 1 1] cB h2 λ(t1:Bool) h3=>Q t1 h3) (Q false h1))
theorem c185 {p0 p1 h Q} (hk:F185 p0 p1 h Q):ZA TP 185 [.pointer p0,ZAn.enc p1] (cB) h Q:=cc a185 n185 hk
def a64:Ann:=mkA 0 [] 0 (bc [])
def n64:An:=(s0 (s0 lf))
def F64 (p0:Option Addr) (h:Hp) (Q:Bool->Hp->Prop):Prop:=ZB (!p0.isNone) (ZR p0 λa1=>ZC cP ⟨a1.block,a1.off+1,none⟩ h λ(p1:Option Addr)=>ZA TP 109 [.pointer p1] cB h λ(t1:Bool) h1=>Q t1 h1) (Q false h)
theorem c64 {p0 h Q} (hk:F64 p0 h Q):ZA TP 64 [.pointer p0] (cB) h Q:=cc a64 n64 hk
def a183:Ann:=mkA 128 [] 0 (bc [(7,ZQ)])
def n183:An:=(s0 (s0 (sq (s0 (bk (.loop [(5,false,cB),(12,false,cI .i64)] 4398046507936 (s0 (sq (cn lf lf) (sq (.blockJ [(5,false,cB)] 2199023240096 (s0 (s0 (.join [(32,false,cB)] 8585740288 r0 (cn r0 lf))))) r0)))))) (s0 lf))))
def F183 (p0:Option Addr) (p1:Sl) (h:Hp) (Q:Bool->Hp->Prop):Prop:=Zj (false,0) h λ(J1:Bool×Int->Hp->Prop) (z1:Bool×Int) h1=>ZB (decide (z1.snd<(↑p1.len:Int))) (ZY (λ(t1:Bool) h2=>J1 (t1,IntKind.i64.wrap (z1.snd+1)) h2) λ(J2:Bool->Hp->Prop)=>Zl p1.a p1.len z1.snd λa1=>ZC ZQ (a1.add (z1.snd.toNat*8)) h1 λ(x1:ZP)=>ZA TP 263 [.agg ⟨[.int .i64 x1.Seq,.int .i64 x1.Msg_Kind,.int .i64 x1.Msg_F_0,.int .i64 x1.Msg_F_1,.int .i64 x1.Msg_F_2,.int .i64 x1.Msg_F_3,.int .i64 x1.Msg_F_4,.int .i64 x1.Msg_F_5]⟩] cSl h1 λ(s1:Sl) h3=>ZA TP 262 [.slice s1.a s1.len s1.cap] (ZW [cSl,cB]) h3 λ(z2:Sl×Bool) h4=>ZY (λ(t2:Bool) h5=>ZB t2 (ZR p0 λa2=>ZC cP ⟨a2.block,a2.off+1,none⟩ h5 λ(p1:Option Addr)=>ZA TP 109 [.pointer p1] cB h5 λ(t3:Bool) h6=>ZB t3 (J2 true h6) (J2 z1.fst h6)) (J2 z1.fst h5)) λ(J3:Bool->Hp->Prop)=>ZB (!z2.snd) (J3 true h4) (ZR p0 λa3=>ZC cP ⟨a3.block,a3.off+2,none⟩ h4 λ(p2:Option Addr)=>ZA TP 264 [.pointer p2,.slice z2.fst.a z2.fst.len z2.fst.cap] cB h4 λ(t4:Bool) h7=>J3 (!t4) h7)) (Q (!z1.fst) h1)
theorem c183 {p0 p1 h Q} (hk:F183 p0 p1 h Q):ZA TP 183 [.pointer p0,.slice p1.a p1.len p1.cap] (cB) h Q:=cc a183 n183 hk
def a107:Ann:=mkA 0 [] 0 (bc [])
def n107:An:=(s0 (sq (s0 (cn (s0 lf) lf)) (s0 (s0 (s0 lf)))))
def F107 (p0:Option Addr) (h:Hp) (Q:Bool->Hp->Prop):Prop:=ZB p0.isNone (Q false h) (ZR p0 λa1=>ZC cP ⟨a1.block,a1.off+1,none⟩ h λ(p1:Option Addr)=>ZA TP 182 [.pointer p1] (ZW [cSl,cB]) h λ(z1:Sl×Bool) h1=>ZA TP 183 [.pointer p0,.slice z1.fst.a z1.fst.len z1.fst.cap] cB h1 λ(t1:Bool) h2=>ZB z1.snd (Q true h2) (Q (!t1) h2))
theorem c107 {p0 h Q} (hk:F107 p0 h Q):ZA TP 107 [.pointer p0] (cB) h Q:=cc a107 n107 hk
end Go.Proofs.YtkmniidiifpdgaaGreat
set_option maxRecDepth 20000
namespace Go.Proofs.YtkmniidiifpdgaaGreat
open Go.Eng
def a34:Ann:=mkA 0 [] 0 (bc [])
def n34:An:=(s0 (sq (s0 (cn (s0 lf) lf)) (s0 lf)))
def F34 (p0:Sl) (h:Hp) (Q:Sl->Hp->Prop):Prop:=ZB p0.a.isNone (Q ⟨none,0,0⟩ h) (ZM (Obj.cells ⟨[]⟩ 105) h λk1 h1=>ZX ZAB 105 56 (some ⟨k1,0,none⟩) 0 0 p0.a p0.len h1 λ(p1:Option Addr) (k2 k3:Nat) h2=>Q ⟨p1,k2,k3⟩ h2)
theorem c34 {p0 h Q} (hk:F34 p0 h Q):ZA TP 34 [.slice p0.a p0.len p0.cap] (cSl) h Q:=cc a34 n34 hk
def a35:Ann:=mkA 0 [] 0 (bc [])
def n35:An:=(s0 (sq (s0 (cn (s0 lf) lf)) (s0 lf)))
def F35 (p0:Sl) (h:Hp) (Q:Sl->Hp->Prop):Prop:=ZB p0.a.isNone (Q ⟨none,0,0⟩ h) (ZM (Obj.cells ⟨[]⟩ 108) h λk1 h1=>ZX Z2 108 24 (some ⟨k1,0,none⟩) 0 0 p0.a p0.len h1 λ(p1:Option Addr) (k2 k3:Nat) h2=>Q ⟨p1,k2,k3⟩ h2)
theorem c35 {p0 h Q} (hk:F35 p0 h Q):ZA TP 35 [.slice p0.a p0.len p0.cap] (cSl) h Q:=cc a35 n35 hk
def a75:Ann:=mkA 0 [] 0 (bc [])
def n75:An:=(s0 (sq (s0 (cn (s0 lf) lf)) (s0 lf)))
def F75 (p0:Sl) (h:Hp) (Q:Sl->Hp->Prop):Prop:=ZB p0.a.isNone (Q ⟨none,0,0⟩ h) (ZM (Obj.cells ⟨[]⟩ 64) h λk1 h1=>ZX Z4 64 64 (some ⟨k1,0,none⟩) 0 0 p0.a p0.len h1 λ(p1:Option Addr) (k2 k3:Nat) h2=>Q ⟨p1,k2,k3⟩ h2)
theorem c75 {p0 h Q} (hk:F75 p0 h Q):ZA TP 75 [.slice p0.a p0.len p0.cap] (cSl) h Q:=cc a75 n75 hk
def a76:Ann:=mkA 0 [] 0 (bc [])
def n76:An:=(s0 (sq (s0 (cn (s0 lf) lf)) (s0 lf)))
def F76 (p0:Sl) (h:Hp) (Q:Sl->Hp->Prop):Prop:=ZB p0.a.isNone (Q ⟨none,0,0⟩ h) (ZM (Obj.cells ⟨[]⟩ 50) h λk1 h1=>ZX ZAb 50 80 (some ⟨k1,0,none⟩) 0 0 p0.a p0.len h1 λ(p1:Option Addr) (k2 k3:Nat) h2=>Q ⟨p1,k2,k3⟩ h2)
theorem c76 {p0 h Q} (hk:F76 p0 h Q):ZA TP 76 [.slice p0.a p0.len p0.cap] (cSl) h Q:=cc a76 n76 hk
def a138:Ann:=mkA 0 [] 0 (bc [])
def n138:An:=(s0 (sq (s0 (cn (s0 lf) lf)) (s0 lf)))
def F138 (p0:Sl) (h:Hp) (Q:Sl->Hp->Prop):Prop:=ZB p0.a.isNone (Q ⟨none,0,0⟩ h) (ZM (Obj.cells ⟨[]⟩ 197) h λk1 h1=>ZX ZBk 197 24 (some ⟨k1,0,none⟩) 0 0 p0.a p0.len h1 λ(p1:Option Addr) (k2 k3:Nat) h2=>Q ⟨p1,k2,k3⟩ h2)
theorem c138 {p0 h Q} (hk:F138 p0 h Q):ZA TP 138 [.slice p0.a p0.len p0.cap] (cSl) h Q:=cc a138 n138 hk
def a139:Ann:=mkA 0 [] 0 (bc [])
def n139:An:=(s0 (s0 (sq (s0 (cn (s0 lf) lf)) (s0 (sq (rg [0,1,2,3,4,5,6,7]) (s0 (s0 lf)))))))
def F139 (p0:Sl) (p1:Int) (p2:Int) (h:Hp) (Q:Sl->Hp->Prop):Prop:=ZIA p0.cap (some p1) p2 (↑p0.len:Int) λ(k1 k2 k3:Nat)=>ZB (p1==p2) (Q p0 h) (ZAI p0.len p0.cap none (some p1) λ(k4 k5:Nat)=>ZAI p0.len p0.cap (some p2) none λ(k6 k7:Nat)=>ZX ZBk 197 24 (Zm p0.a k4 p0.cap 3) (k5-k4) (p0.cap-k4) (Zm p0.a k6 p0.cap 3) (k7-k6) h λ(p1:Option Addr) (k8 k9:Nat) h1=>ZAI k8 k9 (some (↑k8:Int)) (some (↑p0.len:Int)) λ(k10 k11:Nat)=>ZEC ZBk {Tick:=0,Kind:=0,ID:=0:Due} (Zm p1 k10 k9 3) (k11-k10) h1 λh2=>Q ⟨p1,k8,k9⟩ h2)
theorem c139 {p0 p1 p2 h Q} (hk:F139 p0 p1 p2 h Q):ZA TP 139 [.slice p0.a p0.len p0.cap,.int .i64 p1,.int .i64 p2] (cSl) h Q:=cc a139 n139 hk
def a146:Ann:=mkA 0 [] 0 (bc [])
def n146:An:=(s0 (s0 (sq (s0 (cn (s0 lf) lf)) (s0 (sq (rg [0,1,2,3,4,5,6,7]) (s0 (s0 lf)))))))
def F146 (p0:Sl) (p1:Int) (p2:Int) (h:Hp) (Q:Sl->Hp->Prop):Prop:=ZIA p0.cap (some p1) p2 (↑p0.len:Int) λ(k1 k2 k3:Nat)=>ZB (p1==p2) (Q p0 h) (ZAI p0.len p0.cap none (some p1) λ(k4 k5:Nat)=>ZAI p0.len p0.cap (some p2) none λ(k6 k7:Nat)=>ZX ZK 74 48 (Zm p0.a k4 p0.cap 6) (k5-k4) (p0.cap-k4) (Zm p0.a k6 p0.cap 6) (k7-k6) h λ(p1:Option Addr) (k8 k9:Nat) h1=>ZAI k8 k9 (some (↑k8:Int)) (some (↑p0.len:Int)) λ(k10 k11:Nat)=>ZEC ZK {ID:=0,Seq:=0,Owner:=0,Side:=0,Price:=0,Left:=0:ZE} (Zm p1 k10 k9 6) (k11-k10) h1 λh2=>Q ⟨p1,k8,k9⟩ h2)
theorem c146 {p0 p1 p2 h Q} (hk:F146 p0 p1 p2 h Q):ZA TP 146 [.slice p0.a p0.len p0.cap,.int .i64 p1,.int .i64 p2] (cSl) h Q:=cc a146 n146 hk
def a196:Ann:={prom:=0,refs:=[],dyn:=0,bcd:=λs=>match s with|_=>none,fnv:=λs=>match s with|1=>some (cB)|11=>some (cB)|_=>none,eqs:=ZCW eqL,cdc:=ZMd,res:=ZLt,pure:=ZCW [193],pan:=ZCW [192,276]}
def n196:An:=(s0 (sq (s0 (bk (.loop [(8,false,cI .i64)] 524080 (s0 (sq (cn lf lf) (sq (bk (s0 (s0 (cn (s0 lf) lf)))) r0)))))) (s0 lf)))
def F196 (p0:Sl) (p1:FnV) (h:Hp) (Q:Int->Hp->Prop):Prop:=Zj 0 h λ(J1:Int->Hp->Prop) (n1:Int) h1=>ZB (decide (n1<(↑p0.len:Int))) (Zl p0.a p0.len n1 λa1=>ZC ZAB (a1.add (n1.toNat*7)) h1 λ(x1:Bond)=>ZBV TP p1.g p1.first p1.cap [.agg ⟨[.int .i64 x1.Tick,.int .i64 x1.Lot,.int .i64 x1.Min,.int .i64 x1.Max,.int .i64 x1.Low,.int .i64 x1.High,.bool x1.Halted]⟩] cB h1 λ(t1:Bool) h2=>ZB t1 (Q n1 h2) (J1 (IntKind.i64.wrap (n1+1)) h2)) (Q (-1) h1)
theorem c196 {p0 p1 h Q} (hk:F196 p0 p1 h Q):ZA TP 196 [.slice p0.a p0.len p0.cap,.func (Fn.func p1.g) p1.first p1.cap] (cI .i64) h Q:=cc a196 n196 hk
def a197:Ann:={prom:=0,refs:=[],dyn:=0,bcd:=λs=>match s with|_=>none,fnv:=λs=>match s with|1=>some (cB)|11=>some (cB)|_=>none,eqs:=ZCW eqL,cdc:=ZMd,res:=ZLt,pure:=ZCW [193],pan:=ZCW [192,276]}
def n197:An:=(s0 (sq (s0 (bk (.loop [(8,false,cI .i64)] 524080 (s0 (sq (cn lf lf) (sq (bk (s0 (s0 (cn (s0 lf) lf)))) r0)))))) (s0 lf)))
def F197 (p0:Sl) (p1:FnV) (h:Hp) (Q:Int->Hp->Prop):Prop:=Zj 0 h λ(J1:Int->Hp->Prop) (n1:Int) h1=>ZB (decide (n1<(↑p0.len:Int))) (Zl p0.a p0.len n1 λa1=>ZC Z2 (a1.add (n1.toNat*3)) h1 λ(x1:ZAa)=>ZBV TP p1.g p1.first p1.cap [.agg ⟨[.int .i64 x1.Role,.int .u64 x1.Asks,.int .i64 x1.Cap]⟩] cB h1 λ(t1:Bool) h2=>ZB t1 (Q n1 h2) (J1 (IntKind.i64.wrap (n1+1)) h2)) (Q (-1) h1)
theorem c197 {p0 p1 h Q} (hk:F197 p0 p1 h Q):ZA TP 197 [.slice p0.a p0.len p0.cap,.func (Fn.func p1.g) p1.first p1.cap] (cI .i64) h Q:=cc a197 n197 hk
def a201:Ann:={prom:=0,refs:=[],dyn:=0,bcd:=λs=>match s with|_=>none,fnv:=λs=>match s with|1=>some (cB)|11=>some (cB)|_=>none,eqs:=ZCW eqL,cdc:=ZMd,res:=ZLt,pure:=ZCW [193],pan:=ZCW [192,276]}
def n201:An:=(s0 (sq (s0 (bk (.loop [(8,false,cI .i64)] 524080 (s0 (sq (cn lf lf) (sq (bk (s0 (s0 (cn (s0 lf) lf)))) r0)))))) (s0 lf)))
def F201 (p0:Sl) (p1:FnV) (h:Hp) (Q:Int->Hp->Prop):Prop:=Zj 0 h λ(J1:Int->Hp->Prop) (n1:Int) h1=>ZB (decide (n1<(↑p0.len:Int))) (Zl p0.a p0.len n1 λa1=>ZC cP (a1.add (n1.toNat*1)) h1 λ(p1_1:Option Addr)=>ZBV TP p1.g p1.first p1.cap [.pointer p1_1] cB h1 λ(t1:Bool) h2=>ZB t1 (Q n1 h2) (J1 (IntKind.i64.wrap (n1+1)) h2)) (Q (-1) h1)
theorem c201 {p0 p1 h Q} (hk:F201 p0 p1 h Q):ZA TP 201 [.slice p0.a p0.len p0.cap,.func (Fn.func p1.g) p1.first p1.cap] (cI .i64) h Q:=cc a201 n201 hk
def a228:Ann:={prom:=0,refs:=[],dyn:=0,bcd:=λs=>match s with|_=>none,fnv:=λs=>match s with|1=>some (cB)|11=>some (cB)|_=>none,eqs:=ZCW eqL,cdc:=ZMd,res:=ZLt,pure:=ZCW [193],pan:=ZCW [192,276]}
def n228:An:=(s0 (sq (s0 (bk (.loop [(8,false,cI .i64)] 524080 (s0 (sq (cn lf lf) (sq (bk (s0 (s0 (cn (s0 lf) lf)))) r0)))))) (s0 lf)))
def F228 (p0:Sl) (p1:FnV) (h:Hp) (Q:Int->Hp->Prop):Prop:=Zj 0 h λ(J1:Int->Hp->Prop) (n1:Int) h1=>ZB (decide (n1<(↑p0.len:Int))) (Zl p0.a p0.len n1 λa1=>ZC ZK (a1.add (n1.toNat*6)) h1 λ(x1:ZE)=>ZBV TP p1.g p1.first p1.cap [.agg ⟨[.int .i64 x1.ID,.int .i64 x1.Seq,.int .i64 x1.Owner,.int .i64 x1.Side,.int .i64 x1.Price,.int .i64 x1.Left]⟩] cB h1 λ(t1:Bool) h2=>ZB t1 (Q n1 h2) (J1 (IntKind.i64.wrap (n1+1)) h2)) (Q (-1) h1)
theorem c228 {p0 p1 h Q} (hk:F228 p0 p1 h Q):ZA TP 228 [.slice p0.a p0.len p0.cap,.func (Fn.func p1.g) p1.first p1.cap] (cI .i64) h Q:=cc a228 n228 hk
def a230:Ann:={prom:=0,refs:=[],dyn:=0,bcd:=λs=>match s with|_=>none,fnv:=λs=>match s with|1=>some (cB)|11=>some (cB)|_=>none,eqs:=ZCW eqL,cdc:=ZMd,res:=ZLt,pure:=ZCW [193],pan:=ZCW [192,276]}
def n230:An:=(s0 (sq (s0 (bk (.loop [(8,false,cI .i64)] 524080 (s0 (sq (cn lf lf) (sq (bk (s0 (s0 (cn (s0 lf) lf)))) r0)))))) (s0 lf)))
def F230 (p0:Sl) (p1:FnV) (h:Hp) (Q:Int->Hp->Prop):Prop:=Zj 0 h λ(J1:Int->Hp->Prop) (n1:Int) h1=>ZB (decide (n1<(↑p0.len:Int))) (Zl p0.a p0.len n1 λa1=>ZC ZBk (a1.add (n1.toNat*3)) h1 λ(x1:Due)=>ZBV TP p1.g p1.first p1.cap [.agg ⟨[.int .i64 x1.Tick,.int .i64 x1.Kind,.int .i64 x1.ID]⟩] cB h1 λ(t1:Bool) h2=>ZB t1 (Q n1 h2) (J1 (IntKind.i64.wrap (n1+1)) h2)) (Q (-1) h1)
theorem c230 {p0 p1 h Q} (hk:F230 p0 p1 h Q):ZA TP 230 [.slice p0.a p0.len p0.cap,.func (Fn.func p1.g) p1.first p1.cap] (cI .i64) h Q:=cc a230 n230 hk
def a343:Ann:={prom:=0,refs:=[],dyn:=0,bcd:=λs=>match s with|_=>none,fnv:=λs=>match s with|1=>some (cB)|11=>some (cB)|_=>none,eqs:=ZCW eqL,cdc:=ZMd,res:=ZLt,pure:=ZCW [193],pan:=ZCW [192,276]}
def n343:An:=(s0 (sq (s0 (bk (.loop [(8,false,cI .i64)] 524080 (s0 (sq (cn lf lf) (sq (bk (s0 (s0 (cn (s0 lf) lf)))) r0)))))) (s0 lf)))
def F343 (p0:Sl) (p1:FnV) (h:Hp) (Q:Int->Hp->Prop):Prop:=Zj 0 h λ(J1:Int->Hp->Prop) (n1:Int) h1=>ZB (decide (n1<(↑p0.len:Int))) (Zl p0.a p0.len n1 λa1=>ZC ZS (a1.add (n1.toNat*6)) h1 λ(x1:Za)=>ZBV TP p1.g p1.first p1.cap [.agg ⟨[.int .i64 x1.ID,.int .i64 x1.Ask,.int .i64 x1.Dealer,.int .i64 x1.Price,.int .i64 x1.Expires,.bool x1.Live]⟩] cB h1 λ(t1:Bool) h2=>ZB t1 (Q n1 h2) (J1 (IntKind.i64.wrap (n1+1)) h2)) (Q (-1) h1)
theorem c343 {p0 p1 h Q} (hk:F343 p0 p1 h Q):ZA TP 343 [.slice p0.a p0.len p0.cap,.func (Fn.func p1.g) p1.first p1.cap] (cI .i64) h Q:=cc a343 n343 hk
def a222:Ann:={prom:=0,refs:=[],dyn:=0,bcd:=λs=>match s with|_=>none,fnv:=λs=>match s with|2=>some (cI .i64)|24=>some (cI .i64)|40=>some (cI .i64)|_=>none,eqs:=ZCW eqL,cdc:=ZMd,res:=ZLt,pure:=ZCW [193],pan:=ZCW [192,276]}
def n222:An:=(s0 (s0 (s0 (sq (bk (.loop [(9,false,cI .i64),(10,false,cI .i64)] 34359709184 (sq (s0 (cn lf lf)) (.blockJ [(9,false,cI .i64),(10,false,cI .i64)] 34359479808 (s0 (s0 (cn r0 r0))))))) (s0 lf)))))
def F222 (p0:Sl) (p1:Int) (p2:FnV) (h:Hp) (Q:Int×Bool->Hp->Prop):Prop:=Zj (0,(↑p0.len:Int)) h λ(J1:Int×Int->Hp->Prop) (z1:Int×Int) h1=>ZB (decide (z1.fst<z1.snd)) (ZY (λ(z2:Int×Int) h2=>J1 (z2.fst,z2.snd) h2) λ(J2:Int×Int->Hp->Prop)=>(0:Int)<=1/\Zl p0.a p0.len (IntKind.i64.wrap (ZBT IntKind.u64 (IntKind.u64.wrap (IntKind.i64.wrap (z1.fst+z1.snd))) 1)) λa1=>ZC ZAb (a1.add ((IntKind.i64.wrap (ZBT IntKind.u64 (IntKind.u64.wrap (IntKind.i64.wrap (z1.fst+z1.snd))) 1)).toNat*10)) h1 λ(x1:Ask)=>ZBV TP p2.g p2.first p2.cap [.agg ⟨[.int .i64 x1.ID,.int .i64 x1.Client,.int .i64 x1.Bond,.int .i64 x1.Side,.int .i64 x1.Qty,.int .u64 x1.Dealers,.int .i64 x1.Ends,.int .i64 x1.Until,.int .i64 x1.State,.int .i64 x1.Hit]⟩,.int .i64 p1] (cI IntKind.i64) h1 λ(n1:Int) h3=>ZB (decide (n1<0)) (J2 (IntKind.i64.wrap (IntKind.i64.wrap (ZBT IntKind.u64 (IntKind.u64.wrap (IntKind.i64.wrap (z1.fst+z1.snd))) 1)+1),z1.snd) h3) (J2 (z1.fst,IntKind.i64.wrap (ZBT IntKind.u64 (IntKind.u64.wrap (IntKind.i64.wrap (z1.fst+z1.snd))) 1)) h3)) (ZB (decide (z1.fst<(↑p0.len:Int))) (Zl p0.a p0.len z1.fst λa2=>ZC ZAb (a2.add (z1.fst.toNat*10)) h1 λ(x2:Ask)=>ZBV TP p2.g p2.first p2.cap [.agg ⟨[.int .i64 x2.ID,.int .i64 x2.Client,.int .i64 x2.Bond,.int .i64 x2.Side,.int .i64 x2.Qty,.int .u64 x2.Dealers,.int .i64 x2.Ends,.int .i64 x2.Until,.int .i64 x2.State,.int .i64 x2.Hit]⟩,.int .i64 p1] (cI IntKind.i64) h1 λ(n2:Int) h4=>Q (z1.fst,n2==0) h4) (Q (z1.fst,false) h1))
theorem c222 {p0 p1 p2 h Q} (hk:F222 p0 p1 p2 h Q):ZA TP 222 [.slice p0.a p0.len p0.cap,.int .i64 p1,.func (Fn.func p2.g) p2.first p2.cap] (ZW [cI .i64,cB]) h Q:=cc a222 n222 hk
def a224:Ann:={prom:=0,refs:=[],dyn:=0,bcd:=λs=>match s with|_=>none,fnv:=λs=>match s with|2=>some (cI .i64)|24=>some (cI .i64)|40=>some (cI .i64)|_=>none,eqs:=ZCW eqL,cdc:=ZMd,res:=ZLt,pure:=ZCW [193],pan:=ZCW [192,276]}
def n224:An:=(s0 (s0 (s0 (sq (bk (.loop [(9,false,cI .i64),(10,false,cI .i64)] 34359709184 (sq (s0 (cn lf lf)) (.blockJ [(9,false,cI .i64),(10,false,cI .i64)] 34359479808 (s0 (s0 (cn r0 r0))))))) (s0 lf)))))
def F224 (p0:Sl) (p1:Int) (p2:FnV) (h:Hp) (Q:Int×Bool->Hp->Prop):Prop:=Zj (0,(↑p0.len:Int)) h λ(J1:Int×Int->Hp->Prop) (z1:Int×Int) h1=>ZB (decide (z1.fst<z1.snd)) (ZY (λ(z2:Int×Int) h2=>J1 (z2.fst,z2.snd) h2) λ(J2:Int×Int->Hp->Prop)=>(0:Int)<=1/\Zl p0.a p0.len (IntKind.i64.wrap (ZBT IntKind.u64 (IntKind.u64.wrap (IntKind.i64.wrap (z1.fst+z1.snd))) 1)) λa1=>ZC ZS (a1.add ((IntKind.i64.wrap (ZBT IntKind.u64 (IntKind.u64.wrap (IntKind.i64.wrap (z1.fst+z1.snd))) 1)).toNat*6)) h1 λ(x1:Za)=>ZBV TP p2.g p2.first p2.cap [.agg ⟨[.int .i64 x1.ID,.int .i64 x1.Ask,.int .i64 x1.Dealer,.int .i64 x1.Price,.int .i64 x1.Expires,.bool x1.Live]⟩,.int .i64 p1] (cI IntKind.i64) h1 λ(n1:Int) h3=>ZB (decide (n1<0)) (J2 (IntKind.i64.wrap (IntKind.i64.wrap (ZBT IntKind.u64 (IntKind.u64.wrap (IntKind.i64.wrap (z1.fst+z1.snd))) 1)+1),z1.snd) h3) (J2 (z1.fst,IntKind.i64.wrap (ZBT IntKind.u64 (IntKind.u64.wrap (IntKind.i64.wrap (z1.fst+z1.snd))) 1)) h3)) (ZB (decide (z1.fst<(↑p0.len:Int))) (Zl p0.a p0.len z1.fst λa2=>ZC ZS (a2.add (z1.fst.toNat*6)) h1 λ(x2:Za)=>ZBV TP p2.g p2.first p2.cap [.agg ⟨[.int .i64 x2.ID,.int .i64 x2.Ask,.int .i64 x2.Dealer,.int .i64 x2.Price,.int .i64 x2.Expires,.bool x2.Live]⟩,.int .i64 p1] (cI IntKind.i64) h1 λ(n2:Int) h4=>Q (z1.fst,n2==0) h4) (Q (z1.fst,false) h1))
theorem c224 {p0 p1 p2 h Q} (hk:F224 p0 p1 p2 h Q):ZA TP 224 [.slice p0.a p0.len p0.cap,.int .i64 p1,.func (Fn.func p2.g) p2.first p2.cap] (ZW [cI .i64,cB]) h Q:=cc a224 n224 hk
def a283:Ann:={prom:=16,refs:=[],dyn:=0,bcd:=λs=>match s with|4=>some (ZBk)|_=>none,fnv:=λs=>match s with|2=>some (cI .i64)|24=>some (cI .i64)|40=>some (cI .i64)|_=>none,eqs:=ZCW eqL,cdc:=ZMd,res:=ZLt,pure:=ZCW [193],pan:=ZCW [192,276]}
def n283:An:=(s0 (s0 (s0 (sq (bk (.loop [(9,false,cI .i64),(10,false,cI .i64)] 34359709184 (sq (s0 (cn lf lf)) (.blockJ [(9,false,cI .i64),(10,false,cI .i64)] 34359479808 (s0 (sq (rg [0,1,2,3,5,4,6,7]) (cn r0 r0))))))) (sq (rg [0,1,2,3,4,5,6,7,8,10,9,11,12,13,14,15]) lf)))))
def F283 (p0:Sl) (p1:Due) (p2:FnV) (h:Hp) (Q:Int×Bool->Hp->Prop):Prop:=Zj (0,(↑p0.len:Int)) h λ(J1:Int×Int->Hp->Prop) (z1:Int×Int) h1=>ZB (decide (z1.fst<z1.snd)) (ZY (λ(z2:Int×Int) h2=>J1 (z2.fst,z2.snd) h2) λ(J2:Int×Int->Hp->Prop)=>(0:Int)<=1/\Zl p0.a p0.len (IntKind.i64.wrap (ZBT IntKind.u64 (IntKind.u64.wrap (IntKind.i64.wrap (z1.fst+z1.snd))) 1)) λa1=>ZC ZBk (a1.add ((IntKind.i64.wrap (ZBT IntKind.u64 (IntKind.u64.wrap (IntKind.i64.wrap (z1.fst+z1.snd))) 1)).toNat*3)) h1 λ(x1:Due)=>ZBV TP p2.g p2.first p2.cap [.agg ⟨[.int .i64 x1.Tick,.int .i64 x1.Kind,.int .i64 x1.ID]⟩,.agg ⟨[.int .i64 p1.Tick,.int .i64 p1.Kind,.int .i64 p1.ID]⟩] (cI IntKind.i64) h1 λ(n1:Int) h3=>ZB (decide (n1<0)) (J2 (IntKind.i64.wrap (IntKind.i64.wrap (ZBT IntKind.u64 (IntKind.u64.wrap (IntKind.i64.wrap (z1.fst+z1.snd))) 1)+1),z1.snd) h3) (J2 (z1.fst,IntKind.i64.wrap (ZBT IntKind.u64 (IntKind.u64.wrap (IntKind.i64.wrap (z1.fst+z1.snd))) 1)) h3)) (ZB (decide (z1.fst<(↑p0.len:Int))) (Zl p0.a p0.len z1.fst λa2=>ZC ZBk (a2.add (z1.fst.toNat*3)) h1 λ(x2:Due)=>ZBV TP p2.g p2.first p2.cap [.agg ⟨[.int .i64 x2.Tick,.int .i64 x2.Kind,.int .i64 x2.ID]⟩,.agg ⟨[.int .i64 p1.Tick,.int .i64 p1.Kind,.int .i64 p1.ID]⟩] (cI IntKind.i64) h1 λ(n2:Int) h4=>Q (z1.fst,n2==0) h4) (Q (z1.fst,false) h1))
theorem c283 {p0 p1 p2 h Q} (hk:F283 p0 p1 p2 h Q):ZA TP 283 [.slice p0.a p0.len p0.cap,ZBk.enc p1,.func (Fn.func p2.g) p2.first p2.cap] (ZW [cI .i64,cB]) h Q:=cc a283 n283 hk
def a282:Ann:=mkA 0 [] 0 (bc [])
def n282:An:=(s0 (s0 (s0 (sq (s0 (cn (s0 lf) lf)) (s0 (sq (s0 (cn (s0 lf) lf)) (sq (sq rX (cn (sq rX (s0 (sq (rg [0,1,2,3,4,5,6,7,8]) (s0 lf)))) lf)) (s0 (sq (s0 (cn (sq (rg [0,1,2,3,4,5,6,7,8]) (s0 (s0 lf))) lf)) (s0 (s0 (s0 lf))))))))))))
def F282 (p0:Sl) (p1:Int) (p2:Sl) (h:Hp) (Q:Sl->Hp->Prop):Prop:=ZAI p0.len p0.cap (some p1) none λ(k1 k2:Nat)=>ZB ((↑p2.len:Int)==0) (Q p0 h) (ZB (p1==(↑p0.len:Int)) (ZX ZS 207 48 p0.a p0.len p0.cap p2.a p2.len h λ(p1:Option Addr) (k3 k4:Nat) h1=>Q ⟨p1,k3,k4⟩ h1) (ZB (decide (IntKind.i64.wrap ((↑p0.len:Int)+(↑p2.len:Int))>(↑p0.cap:Int))) (ZAI p0.len p0.cap none (some p1) λ(k5 k6:Nat)=>ZHp ZS {ID:=0,Ask:=0,Dealer:=0,Price:=0,Expires:=0,Live:=false:Za} 207 48 (Zm p0.a k5 p0.cap 6) (k6-k5) (p0.cap-k5) (IntKind.i64.wrap (IntKind.i64.wrap ((↑p0.len:Int)+(↑p2.len:Int))-p1)) h λ(p2_1:Option Addr) (k7 k8:Nat) h2=>ZAI k7 k8 (some p1) none λ(k9 k10:Nat)=>ZBG ZS (Zm p2_1 k9 k8 6) (k10-k9) p2.a p2.len h2 λ(n1:Int) h3=>ZAI k7 k8 (some (IntKind.i64.wrap (p1+(↑p2.len:Int)))) none λ(k11 k12:Nat)=>ZAI p0.len p0.cap (some p1) none λ(k13 k14:Nat)=>ZBG ZS (Zm p2_1 k11 k8 6) (k12-k11) (Zm p0.a k13 p0.cap 6) (k14-k13) h3 λ(n2:Int) h4=>Q ⟨p2_1,k7,k8⟩ h4) (ZAI p0.len p0.cap none (some (IntKind.i64.wrap ((↑p0.len:Int)+(↑p2.len:Int)))) λ(k15 k16:Nat)=>ZAI (k16-k15) (p0.cap-k15) (some (IntKind.i64.wrap (p1+(↑p2.len:Int)))) none λ(k17 k18:Nat)=>ZOT TP 324 [.slice p2.a p2.len p2.cap,.slice (Zm (Zm p0.a k15 p0.cap 6) k17 (p0.cap-k15) 6) (k18-k17) (p0.cap-k15-k17)] cB h λ(t1:Bool)=>ZB (!t1) (ZAI (k16-k15) (p0.cap-k15) (some (IntKind.i64.wrap (p1+(↑p2.len:Int)))) none λ(k19 k20:Nat)=>ZAI (k16-k15) (p0.cap-k15) (some p1) none λ(k21 k22:Nat)=>ZBG ZS (Zm (Zm p0.a k15 p0.cap 6) k19 (p0.cap-k15) 6) (k20-k19) (Zm (Zm p0.a k15 p0.cap 6) k21 (p0.cap-k15) 6) (k22-k21) h λ(n3:Int) h5=>ZAI (k16-k15) (p0.cap-k15) (some p1) none λ(k23 k24:Nat)=>ZBG ZS (Zm (Zm p0.a k15 p0.cap 6) k23 (p0.cap-k15) 6) (k24-k23) p2.a p2.len h5 λ(n4:Int) h6=>Q ⟨Zm p0.a k15 p0.cap 6,k16-k15,p0.cap-k15⟩ h6) (ZAI (k16-k15) (p0.cap-k15) (some (↑p0.len:Int)) none λ(k25 k26:Nat)=>ZBG ZS (Zm (Zm p0.a k15 p0.cap 6) k25 (p0.cap-k15) 6) (k26-k25) p2.a p2.len h λ(n5:Int) h7=>ZAI (k16-k15) (p0.cap-k15) (some p1) none λ(k27 k28:Nat)=>ZA TP 325 [.slice (Zm (Zm p0.a k15 p0.cap 6) k27 (p0.cap-k15) 6) (k28-k27) (p0.cap-k15-k27),.int .i64 (↑p2.len:Int)] (ZW []) h7 λu1 h8=>Q ⟨Zm p0.a k15 p0.cap 6,k16-k15,p0.cap-k15⟩ h8))))
theorem c282 {p0 p1 p2 h Q} (hk:F282 p0 p1 p2 h Q):ZA TP 282 [.slice p0.a p0.len p0.cap,.int .i64 p1,.slice p2.a p2.len p2.cap] (cSl) h Q:=cc a282 n282 hk
def a285:Ann:=mkA 0 [] 0 (bc [])
def n285:An:=(s0 (s0 (s0 (sq (s0 (cn (s0 lf) lf)) (s0 (sq (s0 (cn (s0 lf) lf)) (sq (sq rX (cn (sq rX (s0 (sq (rg [0,1,2,3,4,5,6,7,8]) (s0 lf)))) lf)) (s0 (sq (s0 (cn (sq (rg [0,1,2,3,4,5,6,7,8]) (s0 (s0 lf))) lf)) (s0 (s0 (s0 lf))))))))))))
def F285 (p0:Sl) (p1:Int) (p2:Sl) (h:Hp) (Q:Sl->Hp->Prop):Prop:=ZAI p0.len p0.cap (some p1) none λ(k1 k2:Nat)=>ZB ((↑p2.len:Int)==0) (Q p0 h) (ZB (p1==(↑p0.len:Int)) (ZX ZBk 197 24 p0.a p0.len p0.cap p2.a p2.len h λ(p1:Option Addr) (k3 k4:Nat) h1=>Q ⟨p1,k3,k4⟩ h1) (ZB (decide (IntKind.i64.wrap ((↑p0.len:Int)+(↑p2.len:Int))>(↑p0.cap:Int))) (ZAI p0.len p0.cap none (some p1) λ(k5 k6:Nat)=>ZHp ZBk {Tick:=0,Kind:=0,ID:=0:Due} 197 24 (Zm p0.a k5 p0.cap 3) (k6-k5) (p0.cap-k5) (IntKind.i64.wrap (IntKind.i64.wrap ((↑p0.len:Int)+(↑p2.len:Int))-p1)) h λ(p2_1:Option Addr) (k7 k8:Nat) h2=>ZAI k7 k8 (some p1) none λ(k9 k10:Nat)=>ZBG ZBk (Zm p2_1 k9 k8 3) (k10-k9) p2.a p2.len h2 λ(n1:Int) h3=>ZAI k7 k8 (some (IntKind.i64.wrap (p1+(↑p2.len:Int)))) none λ(k11 k12:Nat)=>ZAI p0.len p0.cap (some p1) none λ(k13 k14:Nat)=>ZBG ZBk (Zm p2_1 k11 k8 3) (k12-k11) (Zm p0.a k13 p0.cap 3) (k14-k13) h3 λ(n2:Int) h4=>Q ⟨p2_1,k7,k8⟩ h4) (ZAI p0.len p0.cap none (some (IntKind.i64.wrap ((↑p0.len:Int)+(↑p2.len:Int)))) λ(k15 k16:Nat)=>ZAI (k16-k15) (p0.cap-k15) (some (IntKind.i64.wrap (p1+(↑p2.len:Int)))) none λ(k17 k18:Nat)=>ZOT TP 328 [.slice p2.a p2.len p2.cap,.slice (Zm (Zm p0.a k15 p0.cap 3) k17 (p0.cap-k15) 3) (k18-k17) (p0.cap-k15-k17)] cB h λ(t1:Bool)=>ZB (!t1) (ZAI (k16-k15) (p0.cap-k15) (some (IntKind.i64.wrap (p1+(↑p2.len:Int)))) none λ(k19 k20:Nat)=>ZAI (k16-k15) (p0.cap-k15) (some p1) none λ(k21 k22:Nat)=>ZBG ZBk (Zm (Zm p0.a k15 p0.cap 3) k19 (p0.cap-k15) 3) (k20-k19) (Zm (Zm p0.a k15 p0.cap 3) k21 (p0.cap-k15) 3) (k22-k21) h λ(n3:Int) h5=>ZAI (k16-k15) (p0.cap-k15) (some p1) none λ(k23 k24:Nat)=>ZBG ZBk (Zm (Zm p0.a k15 p0.cap 3) k23 (p0.cap-k15) 3) (k24-k23) p2.a p2.len h5 λ(n4:Int) h6=>Q ⟨Zm p0.a k15 p0.cap 3,k16-k15,p0.cap-k15⟩ h6) (ZAI (k16-k15) (p0.cap-k15) (some (↑p0.len:Int)) none λ(k25 k26:Nat)=>ZBG ZBk (Zm (Zm p0.a k15 p0.cap 3) k25 (p0.cap-k15) 3) (k26-k25) p2.a p2.len h λ(n5:Int) h7=>ZAI (k16-k15) (p0.cap-k15) (some p1) none λ(k27 k28:Nat)=>ZA TP 329 [.slice (Zm (Zm p0.a k15 p0.cap 3) k27 (p0.cap-k15) 3) (k28-k27) (p0.cap-k15-k27),.int .i64 (↑p2.len:Int)] (ZW []) h7 λu1 h8=>Q ⟨Zm p0.a k15 p0.cap 3,k16-k15,p0.cap-k15⟩ h8))))
theorem c285 {p0 p1 p2 h Q} (hk:F285 p0 p1 p2 h Q):ZA TP 285 [.slice p0.a p0.len p0.cap,.int .i64 p1,.slice p2.a p2.len p2.cap] (cSl) h Q:=cc a285 n285 hk
def a297:Ann:=mkA 0 [] 0 (bc [])
def n297:An:=(s0 (s0 (s0 (sq (s0 (cn (s0 lf) lf)) (s0 (sq (s0 (cn (s0 lf) lf)) (sq (sq rX (cn (sq rX (s0 (sq (rg [0,1,2,3,4,5,6,7,8]) (s0 lf)))) lf)) (s0 (sq (s0 (cn (sq (rg [0,1,2,3,4,5,6,7,8]) (s0 (s0 lf))) lf)) (s0 (s0 (s0 lf))))))))))))
def F297 (p0:Sl) (p1:Int) (p2:Sl) (h:Hp) (Q:Sl->Hp->Prop):Prop:=ZAI p0.len p0.cap (some p1) none λ(k1 k2:Nat)=>ZB ((↑p2.len:Int)==0) (Q p0 h) (ZB (p1==(↑p0.len:Int)) (ZX ZAb 50 80 p0.a p0.len p0.cap p2.a p2.len h λ(p1:Option Addr) (k3 k4:Nat) h1=>Q ⟨p1,k3,k4⟩ h1) (ZB (decide (IntKind.i64.wrap ((↑p0.len:Int)+(↑p2.len:Int))>(↑p0.cap:Int))) (ZAI p0.len p0.cap none (some p1) λ(k5 k6:Nat)=>ZHp ZAb {ID:=0,Client:=0,Bond:=0,Side:=0,Qty:=0,Dealers:=0,Ends:=0,Until:=0,State:=0,Hit:=0:Ask} 50 80 (Zm p0.a k5 p0.cap 10) (k6-k5) (p0.cap-k5) (IntKind.i64.wrap (IntKind.i64.wrap ((↑p0.len:Int)+(↑p2.len:Int))-p1)) h λ(p2_1:Option Addr) (k7 k8:Nat) h2=>ZAI k7 k8 (some p1) none λ(k9 k10:Nat)=>ZBG ZAb (Zm p2_1 k9 k8 10) (k10-k9) p2.a p2.len h2 λ(n1:Int) h3=>ZAI k7 k8 (some (IntKind.i64.wrap (p1+(↑p2.len:Int)))) none λ(k11 k12:Nat)=>ZAI p0.len p0.cap (some p1) none λ(k13 k14:Nat)=>ZBG ZAb (Zm p2_1 k11 k8 10) (k12-k11) (Zm p0.a k13 p0.cap 10) (k14-k13) h3 λ(n2:Int) h4=>Q ⟨p2_1,k7,k8⟩ h4) (ZAI p0.len p0.cap none (some (IntKind.i64.wrap ((↑p0.len:Int)+(↑p2.len:Int)))) λ(k15 k16:Nat)=>ZAI (k16-k15) (p0.cap-k15) (some (IntKind.i64.wrap (p1+(↑p2.len:Int)))) none λ(k17 k18:Nat)=>ZOT TP 341 [.slice p2.a p2.len p2.cap,.slice (Zm (Zm p0.a k15 p0.cap 10) k17 (p0.cap-k15) 10) (k18-k17) (p0.cap-k15-k17)] cB h λ(t1:Bool)=>ZB (!t1) (ZAI (k16-k15) (p0.cap-k15) (some (IntKind.i64.wrap (p1+(↑p2.len:Int)))) none λ(k19 k20:Nat)=>ZAI (k16-k15) (p0.cap-k15) (some p1) none λ(k21 k22:Nat)=>ZBG ZAb (Zm (Zm p0.a k15 p0.cap 10) k19 (p0.cap-k15) 10) (k20-k19) (Zm (Zm p0.a k15 p0.cap 10) k21 (p0.cap-k15) 10) (k22-k21) h λ(n3:Int) h5=>ZAI (k16-k15) (p0.cap-k15) (some p1) none λ(k23 k24:Nat)=>ZBG ZAb (Zm (Zm p0.a k15 p0.cap 10) k23 (p0.cap-k15) 10) (k24-k23) p2.a p2.len h5 λ(n4:Int) h6=>Q ⟨Zm p0.a k15 p0.cap 10,k16-k15,p0.cap-k15⟩ h6) (ZAI (k16-k15) (p0.cap-k15) (some (↑p0.len:Int)) none λ(k25 k26:Nat)=>ZBG ZAb (Zm (Zm p0.a k15 p0.cap 10) k25 (p0.cap-k15) 10) (k26-k25) p2.a p2.len h λ(n5:Int) h7=>ZAI (k16-k15) (p0.cap-k15) (some p1) none λ(k27 k28:Nat)=>ZA TP 342 [.slice (Zm (Zm p0.a k15 p0.cap 10) k27 (p0.cap-k15) 10) (k28-k27) (p0.cap-k15-k27),.int .i64 (↑p2.len:Int)] (ZW []) h7 λu1 h8=>Q ⟨Zm p0.a k15 p0.cap 10,k16-k15,p0.cap-k15⟩ h8))))
theorem c297 {p0 p1 p2 h Q} (hk:F297 p0 p1 p2 h Q):ZA TP 297 [.slice p0.a p0.len p0.cap,.int .i64 p1,.slice p2.a p2.len p2.cap] (cSl) h Q:=cc a297 n297 hk
end Go.Proofs.YtkmniidiifpdgaaGreat
set_option maxRecDepth 20000
namespace Go.Proofs.YtkmniidiifpdgaaGreat
open Go.Eng
def a117:Ann:=mkA 0 [] 0 (bc [])
def n117:An:=(s0 (s0 lf))
def F117 (p0:Int) (p1:Int) (p2:Int) (h:Hp) (Q:Bool->Hp->Prop):Prop:=ZB (decide (p0>=p1)) (Q (decide (p0<=p2)) h) (Q false h)
theorem c117 {p0 p1 p2 h Q} (hk:F117 p0 p1 p2 h Q):ZA TP 117 [.int .i64 p0,.int .i64 p1,.int .i64 p2] (cB) h Q:=cc a117 n117 hk
def a119:Ann:=mkA 2 [(5,1),(9,1),(14,1),(16,1),(20,1),(24,1),(29,1),(31,1),(40,1),(42,1),(44,1),(48,1)] 0 (bc [(1,ZAB)])
def n119:An:=(s0 (.join [(3,false,cB)] 1048552 r0 (.join [(4,false,cB)] 34358689808 r0 (sq (rg [0,1,2,3,4,5,6,7,8,9,10,11,12,13,14,15,16,17]) lf))))
def F119 (p0:Bond) (h:Hp) (Q:Bool->Hp->Prop):Prop:=ZY (λ(t1:Bool) h1=>ZY (λ(t2:Bool) h2=>ZB t1 (ZB t2 (p0.Lot≠0/\Q (decide (IntKind.i64.wrap (p0.Max-p0.Max.tmod p0.Lot)>=p0.Min)) h2) (Q false h2)) (Q false h2)) λ(J1:Bool->Hp->Prop)=>ZA TP 195 [.int .i64 p0.Lot,.int .i64 1,.int .i64 1000000] cB h1 λ(t3:Bool) h3=>ZB t3 (ZA TP 195 [.int .i64 p0.Min,.int .i64 1,.int .i64 1000000] cB h3 λ(t4:Bool) h4=>ZB t4 (ZA TP 195 [.int .i64 p0.Max,.int .i64 p0.Min,.int .i64 1000000] cB h4 λ(t5:Bool) h5=>J1 t5 h5) (J1 false h4)) (J1 false h3)) λ(J2:Bool->Hp->Prop)=>ZA TP 195 [.int .i64 p0.Tick,.int .i64 1,.int .i64 1000000] cB h λ(t6:Bool) h6=>ZB t6 (ZA TP 195 [.int .i64 p0.Low,.int .i64 1,.int .i64 1000000] cB h6 λ(t7:Bool) h7=>ZB t7 (ZA TP 195 [.int .i64 p0.High,.int .i64 p0.Low,.int .i64 1000000] cB h7 λ(t8:Bool) h8=>J2 t8 h8) (J2 false h7)) (J2 false h6)
theorem c119 {p0 h Q} (hk:F119 p0 h Q):ZA TP 119 [ZAB.enc p0] (cB) h Q:=cc a119 n119 hk
def a120:Ann:=mkA 32 [(13,5)] 0 (bc [(5,Z2)])
def n120:An:=(s0 (s0 (sq (s0 (bk (.loop [(3,false,cI .u64),(8,false,cI .i64)] 2096952 (s0 (sq (cn lf lf) (sq (.blockJ [(3,false,cI .u64)] 1047608 (s0 (s0 (cn r0 lf)))) r0)))))) (s0 lf))))
def F120 (p0:Sl) (h:Hp) (Q:Int->Hp->Prop):Prop:=Zj (0,0) h λ(J1:Int×Int->Hp->Prop) (z1:Int×Int) h1=>ZB (decide (z1.snd<(↑p0.len:Int))) (ZY (λ(n1:Int) h2=>J1 (n1,IntKind.i64.wrap (z1.snd+1)) h2) λ(J2:Int->Hp->Prop)=>Zl p0.a p0.len z1.snd λa1=>ZC Z2 (a1.add (z1.snd.toNat*3)) h1 λ(x1:ZAa)=>ZB (x1.Role==2) (0<=z1.snd/\J2 (orI IntKind.u64 z1.fst (ZLw IntKind.u64 1 z1.snd)) h1) (J2 z1.fst h1)) (Q z1.fst h1)
theorem c120 {p0 h Q} (hk:F120 p0 h Q):ZA TP 120 [.slice p0.a p0.len p0.cap] (cI .u64) h Q:=cc a120 n120 hk
def a122:Ann:=mkA 4 [(5,2),(9,2),(15,2),(21,2),(25,2),(31,2),(35,2)] 0 (bc [(2,Z2)])
def n122:An:=(s0 (sq (s0 (bk (s0 (cn (s0 lf) (s0 (cn (s0 lf) (s0 (cn (s0 lf) lf)))))))) (s0 lf)))
def F122 (p0:ZAa) (p1:Int) (h:Hp) (Q:Bool->Hp->Prop):Prop:=ZB (p0.Role==1) (ZB (ZGP IntKind.u64 p0.Asks p1==0) (Q (p0.Cap==0) h) (Q false h)) (ZB (p0.Role==2) (ZB (p0.Asks==0) (ZA TP 117 [.int .i64 p0.Cap,.int .i64 0,.int .i64 1099511627776] cB h λ(t1:Bool) h1=>Q t1 h1) (Q false h)) (ZB (p0.Role==3) (ZB (p0.Asks==0) (Q (p0.Cap==0) h) (Q false h)) (Q false h)))
theorem c122 {p0 p1 h Q} (hk:F122 p0 p1 h Q):ZA TP 122 [Z2.enc p0,.int .u64 p1] (cB) h Q:=cc a122 n122 hk
def a195:Ann:=mkA 0 [] 0 (bc [])
def n195:An:=(s0 (s0 lf))
def F195 (p0:Int) (p1:Int) (p2:Int) (h:Hp) (Q:Bool->Hp->Prop):Prop:=ZB (decide (p0>=p1)) (Q (decide (p0<=p2)) h) (Q false h)
theorem c195 {p0 p1 p2 h Q} (hk:F195 p0 p1 p2 h Q):ZA TP 195 [.int .i64 p0,.int .i64 p1,.int .i64 p2] (cB) h Q:=cc a195 n195 hk
def a206:Ann:=mkA 4 [(7,2),(9,2),(15,2)] 0 (bc [(2,ZAB)])
def n206:An:=(s0 (sq (bk (s0 (cn (s0 lf) (s0 (cn (s0 lf) lf))))) (s0 lf)))
def F206 (p0:Bond) (p1:Int) (h:Hp) (Q:Int->Hp->Prop):Prop:=ZA TP 195 [.int .i64 p1,.int .i64 p0.Low,.int .i64 p0.High] cB h λ(t1:Bool) h1=>ZB (!t1) (Q 10 h1) (p0.Tick≠0/\ZB (p1.tmod p0.Tick != 0) (Q 7 h1) (Q 0 h1))
theorem c206 {p0 p1 h Q} (hk:F206 p0 p1 h Q):ZA TP 206 [ZAB.enc p0,.int .i64 p1] (cI .i64) h Q:=cc a206 n206 hk
def a207:Ann:=mkA 0 [] 0 (bc [])
def n207:An:=(s0 (s0 lf))
def F207 (p0:Int) (h:Hp) (Q:Bool->Hp->Prop):Prop:=ZB (decide (p0>=1)) (Q (decide (p0<=1000)) h) (Q false h)
theorem c207 {p0 h Q} (hk:F207 p0 h Q):ZA TP 207 [.int .i64 p0] (cB) h Q:=cc a207 n207 hk
def a218:Ann:=mkA 0 [] 0 (bc [])
def n218:An:=(s0 (s0 lf))
def F218 (p0:Int) (h:Hp) (Q:Bool->Hp->Prop):Prop:=ZB (p0==1) (Q true h) (Q (p0==2) h)
theorem c218 {p0 h Q} (hk:F218 p0 h Q):ZA TP 218 [.int .i64 p0] (cB) h Q:=cc a218 n218 hk
def a219:Ann:=mkA 4 [(7,2),(9,2),(15,2)] 0 (bc [(2,ZAB)])
def n219:An:=(s0 (sq (bk (s0 (cn (s0 lf) (s0 (cn (s0 lf) lf))))) (s0 lf)))
def F219 (p0:Bond) (p1:Int) (h:Hp) (Q:Int->Hp->Prop):Prop:=ZA TP 195 [.int .i64 p1,.int .i64 p0.Min,.int .i64 p0.Max] cB h λ(t1:Bool) h1=>ZB (!t1) (Q 9 h1) (p0.Lot≠0/\ZB (p1.tmod p0.Lot != 0) (Q 8 h1) (Q 0 h1))
theorem c219 {p0 p1 h Q} (hk:F219 p0 p1 h Q):ZA TP 219 [ZAB.enc p0,.int .i64 p1] (cI .i64) h Q:=cc a219 n219 hk
def a279:Ann:=mkA 8 [(8,3)] 0 (bc [(3,ZAB)])
def n279:An:=(s0 (sq (s0 (cn (s0 lf) lf)) (sq (s0 (s0 (cn (s0 lf) lf))) (s0 lf))))
def F279 (p0:Bond) (p1:Int) (p2:Int) (h:Hp) (Q:Int->Hp->Prop):Prop:=ZB p0.Halted (Q 6 h) (ZA TP 206 [.agg ⟨[.int .i64 p0.Tick,.int .i64 p0.Lot,.int .i64 p0.Min,.int .i64 p0.Max,.int .i64 p0.Low,.int .i64 p0.High,.bool p0.Halted]⟩,.int .i64 p1] (cI IntKind.i64) h λ(n1:Int) h1=>ZB (n1 != 0) (Q n1 h1) (ZA TP 219 [.agg ⟨[.int .i64 p0.Tick,.int .i64 p0.Lot,.int .i64 p0.Min,.int .i64 p0.Max,.int .i64 p0.Low,.int .i64 p0.High,.bool p0.Halted]⟩,.int .i64 p2] (cI IntKind.i64) h1 λ(n2:Int) h2=>Q n2 h2))
theorem c279 {p0 p1 p2 h Q} (hk:F279 p0 p1 p2 h Q):ZA TP 279 [ZAB.enc p0,.int .i64 p1,.int .i64 p2] (cI .i64) h Q:=cc a279 n279 hk
def a330:Ann:=mkA 0 [] 0 (bc [])
def n330:An:=(s0 (sq (s0 (cn (s0 lf) lf)) (s0 lf)))
def F330 (p0:Int) (h:Hp) (Q:Int->Hp->Prop):Prop:=ZA TP 218 [.int .i64 p0] cB h λ(t1:Bool) h1=>ZB (!t1) (Q 0 h1) (Q (IntKind.i64.wrap (3-p0)) h1)
theorem c330 {p0 h Q} (hk:F330 p0 h Q):ZA TP 330 [.int .i64 p0] (cI .i64) h Q:=cc a330 n330 hk
def a361:Ann:=mkA 128 [(17,7)] 0 (bc [(7,ZCK)])
def n361:An:=(s0 (s0 (sq (s0 (bk (.loop [(5,false,cI .i64),(12,false,cI .i64)] 2093216 (s0 (sq (cn lf lf) (sq (bk (s0 r0)) r0)))))) (s0 lf))))
def F361 (p0:Option Addr) (p1:Int) (h:Hp) (Q:Int->Hp->Prop):Prop:=ZA TP 362 [.pointer p0,.int .i64 p1] cSl h λ(s1:Sl) h1=>Zj (0,0) h1 λ(J1:Int×Int->Hp->Prop) (z1:Int×Int) h2=>ZB (decide (z1.snd<(↑s1.len:Int))) (Zl s1.a s1.len z1.snd λa1=>ZC ZCK (a1.add (z1.snd.toNat*2)) h2 λ(x1:ZFC)=>J1 (IntKind.i64.wrap (z1.fst+x1.Qty),IntKind.i64.wrap (z1.snd+1)) h2) (Q z1.fst h2)
theorem c361 {p0 p1 h Q} (hk:F361 p0 p1 h Q):ZA TP 361 [.pointer p0,.int .i64 p1] (cI .i64) h Q:=cc a361 n361 hk
def a382:Ann:=mkA 0 [] 0 (bc [])
def n382:An:=(s0 (s0 lf))
def F382 (p0:Int) (p1:Int) (p2:Int) (h:Hp) (Q:Bool->Hp->Prop):Prop:=ZA TP 218 [.int .i64 p0] cB h λ(t1:Bool) h1=>ZB t1 (ZA TP 102 [.int .i64 p0,.int .i64 p2,.int .i64 p1] cB h1 λ(t2:Bool) h2=>Q (!t2) h2) (Q false h1)
theorem c382 {p0 p1 p2 h Q} (hk:F382 p0 p1 p2 h Q):ZA TP 382 [.int .i64 p0,.int .i64 p1,.int .i64 p2] (cB) h Q:=cc a382 n382 hk
def a58:Ann:=mkA 12 [(6,2),(8,2),(10,3),(14,2),(16,3),(18,2),(21,2),(23,3)] 0 (bc [(2,ZK),(3,ZK)])
def a20:Ann:=mkA 128 [(19,7)] 0 (bc [(7,ZK)])
def n20:An:=(s0 (sq (s0 (cn (s0 lf) lf)) (s0 (sq (s0 (bk (.loop [(5,false,cSl),(15,false,cI .i64)] 268402848 (s0 (sq (cn lf lf) (sq (.blockJ [(5,false,cSl)] 134086816 (s0 (s0 (cn r0 lf)))) r0)))))) (s0 (s0 lf))))))
def F20 (p0:Option Addr) (p1:Int) (h:Hp) (Q:Sl->Hp->Prop):Prop:=ZB p0.isNone (Q ⟨none,0,0⟩ h) (ZR p0 λa1=>ZC cSl (a1.add 0) h λ(s1:Sl)=>Zj ({a:=none,len:=0,cap:=0:Sl},0) h λ(J1:Sl×Int->Hp->Prop) (z1:Sl×Int) h1=>ZB (decide (z1.snd<(↑s1.len:Int))) (ZY (λ(s2:Sl) h2=>J1 (s2,IntKind.i64.wrap (z1.snd+1)) h2) λ(J2:Sl->Hp->Prop)=>Zl s1.a s1.len z1.snd λa2=>ZC ZK (a2.add (z1.snd.toNat*6)) h1 λ(x1:ZE)=>ZB (x1.Side==p1) (ZM (Obj.cells ⟨[.int .i64 x1.ID,.int .i64 x1.Seq,.int .i64 x1.Owner,.int .i64 x1.Side,.int .i64 x1.Price,.int .i64 x1.Left]⟩ 74) h1 λk1 h3=>ZX ZK 74 48 z1.fst.a z1.fst.len z1.fst.cap (some ⟨k1,0,none⟩) 1 h3 λ(p1:Option Addr) (k2 k3:Nat) h4=>J2 ⟨p1,k2,k3⟩ h4) (J2 z1.fst h1)) (ZA TP 57 [.slice z1.fst.a z1.fst.len z1.fst.cap,.func (Fn.func 58) ⟨[]⟩ ⟨[]⟩] (ZW []) h1 λu1 h5=>Q z1.fst h5))
theorem c20 {p0 p1 h Q} (hk:F20 p0 p1 h Q):ZA TP 20 [.pointer p0,.int .i64 p1] (cSl) h Q:=cc a20 n20 hk
def a85:Ann:=mkA 144 [] 0 (bc [(4,ZK),(7,ZK)])
def n85:An:=(s0 (s0 (sq (s0 (cn (s0 lf) lf)) (s0 (s0 (s0 lf))))))
def F85 (p0:Option Addr) (p1:Int) (h:Hp) (Q:ZE×Bool->Hp->Prop):Prop:=ZA TP 145 [.pointer p0,.int .i64 p1] (cI IntKind.i64) h λ(n1:Int) h1=>ZB (decide (n1<0)) (Q ({ID:=0,Seq:=0,Owner:=0,Side:=0,Price:=0,Left:=0:ZE},false) h1) (ZR p0 λa1=>ZC cSl (a1.add 0) h1 λ(s1:Sl)=>Zl s1.a s1.len n1 λa2=>ZC ZK (a2.add (n1.toNat*6)) h1 λ(x1:ZE)=>ZR p0 λa3=>ZC cSl (a3.add 0) h1 λ(s2:Sl)=>ZA TP 146 [.slice s2.a s2.len s2.cap,.int .i64 n1,.int .i64 (IntKind.i64.wrap (n1+1))] cSl h1 λ(s3:Sl) h2=>ZR p0 λa4=>ZV cSl (a4.add 0) s3 h2 λh3=>Q (x1,true) h3)
theorem c85 {p0 p1 h Q} (hk:F85 p0 p1 h Q):ZA TP 85 [.pointer p0,.int .i64 p1] (ZW [ZK,cB]) h Q:=cc a85 n85 hk
def a145:Ann:=mkA 0 [] 0 (bc [])
def n145:An:=(s0 (sq (s0 (cn (s0 lf) lf)) (s0 lf)))
def F145 (p0:Option Addr) (p1:Int) (h:Hp) (Q:Int->Hp->Prop):Prop:=ZM (Obj.cells ⟨[.int .i64 p1]⟩ 2) h λk1 h1=>ZB p0.isNone (Q (-1) h1) (ZR p0 λa1=>ZC cSl (a1.add 0) h1 λ(s1:Sl)=>ZA TP 228 [.slice s1.a s1.len s1.cap,.func (Fn.func 229) ⟨[]⟩ ⟨[.pointer (some ⟨k1,0,none⟩)]⟩] (cI IntKind.i64) h1 λ(n1:Int) h2=>Q n1 h2)
theorem c145 {p0 p1 h Q} (hk:F145 p0 p1 h Q):ZA TP 145 [.pointer p0,.int .i64 p1] (cI .i64) h Q:=cc a145 n145 hk
def a203:Ann:=mkA 16 [] 0 (bc [(4,ZK)])
def n203:An:=(s0 (s0 (sq (s0 (cn (s0 lf) lf)) (s0 lf))))
def F203 (p0:Option Addr) (p1:Int) (h:Hp) (Q:ZE×Bool->Hp->Prop):Prop:=ZA TP 145 [.pointer p0,.int .i64 p1] (cI IntKind.i64) h λ(n1:Int) h1=>ZB (decide (n1<0)) (Q ({ID:=0,Seq:=0,Owner:=0,Side:=0,Price:=0,Left:=0:ZE},false) h1) (ZR p0 λa1=>ZC cSl (a1.add 0) h1 λ(s1:Sl)=>Zl s1.a s1.len n1 λa2=>ZC ZK (a2.add (n1.toNat*6)) h1 λ(x1:ZE)=>Q (x1,true) h1)
theorem c203 {p0 p1 h Q} (hk:F203 p0 p1 h Q):ZA TP 203 [.pointer p0,.int .i64 p1] (ZW [ZK,cB]) h Q:=cc a203 n203 hk
def a357:Ann:=mkA 0 [] 0 (bc [])
def n357:An:=(s0 (sq (.join [(19,false,cB)] 1048544 r0 (cn (s0 lf) lf)) (sq (s0 (cn (s0 lf) lf)) (sq (rg [0,1,2,3,4,5,6,7,8,9,10]) (s0 lf)))))
def F357 (p0:Option Addr) (p1:ZE) (h:Hp) (Q:Int->Hp->Prop):Prop:=ZM (Obj.cells ⟨[.int .i64 p1.ID,.int .i64 p1.Seq,.int .i64 p1.Owner,.int .i64 p1.Side,.int .i64 p1.Price,.int .i64 p1.Left]⟩ 74) h λk1 h1=>ZY (λ(t1:Bool) h2=>ZB t1 (Q 1 h2) (ZR p0 λa1=>ZC cSl (a1.add 0) h2 λ(s1:Sl)=>ZB (decide ((↑s1.len:Int)>=64)) (Q 3 h2) (ZR p0 λa2=>ZC cSl (a2.add 0) h2 λ(s2:Sl)=>ZC ZK ⟨k1,0,none⟩ h2 λ(x1:ZE)=>ZM (Obj.cells ⟨[.int .i64 x1.ID,.int .i64 x1.Seq,.int .i64 x1.Owner,.int .i64 x1.Side,.int .i64 x1.Price,.int .i64 x1.Left]⟩ 74) h2 λk2 h3=>ZX ZK 74 48 s2.a s2.len s2.cap (some ⟨k2,0,none⟩) 1 h3 λ(p1:Option Addr) (k3 k4:Nat) h4=>ZR p0 λa3=>ZV cSl (a3.add 0) ⟨p1,k3,k4⟩ h4 λh5=>Q 0 h5))) λ(J1:Bool->Hp->Prop)=>ZB p0.isNone (J1 true h1) (ZC ZK ⟨k1,0,none⟩ h1 λ(x2:ZE)=>ZA TP 373 [.agg ⟨[.int .i64 x2.ID,.int .i64 x2.Seq,.int .i64 x2.Owner,.int .i64 x2.Side,.int .i64 x2.Price,.int .i64 x2.Left]⟩] cB h1 λ(t2:Bool) h6=>ZB (!t2) (J1 true h6) (ZR p0 λa4=>ZC cSl (a4.add 0) h6 λ(s3:Sl)=>ZA TP 374 [.slice s3.a s3.len s3.cap,.func (Fn.func 375) ⟨[]⟩ ⟨[.pointer (some ⟨k1,0,none⟩)]⟩] cB h6 λ(t3:Bool) h7=>J1 t3 h7))
theorem c357 {p0 p1 h Q} (hk:F357 p0 p1 h Q):ZA TP 357 [.pointer p0,ZK.enc p1] (cI .i64) h Q:=cc a357 n357 hk
def a280:Ann:=mkA 0 [] 0 (bc [])
def n280:An:=(s0 (sq (s0 (cn (s0 lf) lf)) (s0 (sq (bk (s0 (cn (s0 lf) (.join [(16,false,cB)] 2147418112 r0 (cn (s0 lf) lf))))) (s0 (s0 lf))))))
def F280 (p0:Option Addr) (p1:Int) (p2:Int) (h:Hp) (Q:Int->Hp->Prop):Prop:=ZB p0.isNone (Q 1 h) (ZA TP 145 [.pointer p0,.int .i64 p1] (cI IntKind.i64) h λ(n1:Int) h1=>ZB (decide (n1<0)) (Q 4 h1) (ZY (λ(t1:Bool) h2=>ZB t1 (Q 1 h2) (ZR p0 λa1=>ZC cSl (a1.add 0) h2 λ(s1:Sl)=>Zl s1.a s1.len n1 λa2=>ZV (cI IntKind.i64) ⟨(a2.add (n1.toNat*6)).block,(a2.add (n1.toNat*6)).off+5,none⟩ p2 h2 λh3=>Q 0 h3)) λ(J1:Bool->Hp->Prop)=>ZB (decide (p2<1)) (J1 true h1) (ZR p0 λa3=>ZC cSl (a3.add 0) h1 λ(s2:Sl)=>Zl s2.a s2.len n1 λa4=>ZC (cI IntKind.i64) ⟨(a4.add (n1.toNat*6)).block,(a4.add (n1.toNat*6)).off+5,none⟩ h1 λ(n2:Int)=>J1 (decide (p2>n2)) h1)))
theorem c280 {p0 p1 p2 h Q} (hk:F280 p0 p1 p2 h Q):ZA TP 280 [.pointer p0,.int .i64 p1,.int .i64 p2] (cI .i64) h Q:=cc a280 n280 hk
def a362:Ann:=mkA 128 [(28,7),(38,7),(44,7),(46,7)] 0 (bc [(7,ZK)])
def n362:An:=(s0 (s0 (sq (s0 (bk (.loop [(5,false,cSl),(13,false,cI .i64)] 4503599627362720 (s0 (sq (cn lf lf) (sq (.blockJ [(5,false,cSl)] 2251799813652896 (s0 (sq (s0 (.join [(31,false,cB)] 4294443008 (rg [0,1,2,3,4,5,6,7,9,10,8,11,12]) (cn (sq (rg [0,1,2,3,4,6,7,5,8,9,10,11]) lf) lf))) r0))) r0)))))) (s0 lf))))
def F362 (p0:Option Addr) (p1:Int) (h:Hp) (Q:Sl->Hp->Prop):Prop:=ZA TP 20 [.pointer p0,.int .i64 p1] cSl h λ(s1:Sl) h1=>Zj ({a:=none,len:=0,cap:=0:Sl},0) h1 λ(J1:Sl×Int->Hp->Prop) (z1:Sl×Int) h2=>ZB (decide (z1.snd<(↑s1.len:Int))) (ZY (λ(s2:Sl) h3=>J1 (s2,IntKind.i64.wrap (z1.snd+1)) h3) λ(J2:Sl->Hp->Prop)=>Zl s1.a s1.len z1.snd λa1=>ZC ZK (a1.add (z1.snd.toNat*6)) h2 λ(x1:ZE)=>ZY (λ(t1:Bool) h4=>ZB t1 (Zl z1.fst.a z1.fst.len (IntKind.i64.wrap ((↑z1.fst.len:Int)-1)) λa2=>ZC (cI IntKind.i64) ⟨(a2.add ((IntKind.i64.wrap ((↑z1.fst.len:Int)-1)).toNat*2)).block,(a2.add ((IntKind.i64.wrap ((↑z1.fst.len:Int)-1)).toNat*2)).off+1,none⟩ h4 λ(n1:Int)=>Zl z1.fst.a z1.fst.len (IntKind.i64.wrap ((↑z1.fst.len:Int)-1)) λa3=>ZV (cI IntKind.i64) ⟨(a3.add ((IntKind.i64.wrap ((↑z1.fst.len:Int)-1)).toNat*2)).block,(a3.add ((IntKind.i64.wrap ((↑z1.fst.len:Int)-1)).toNat*2)).off+1,none⟩ (IntKind.i64.wrap (n1+x1.Left)) h4 λh5=>J2 z1.fst h5) (ZM (Obj.cells ⟨[.int .i64 x1.Price,.int .i64 x1.Left]⟩ 441) h4 λk1 h6=>ZX ZCK 441 16 z1.fst.a z1.fst.len z1.fst.cap (some ⟨k1,0,none⟩) 1 h6 λ(p1:Option Addr) (k2 k3:Nat) h7=>J2 ⟨p1,k2,k3⟩ h7)) λ(J3:Bool->Hp->Prop)=>ZB (decide ((↑z1.fst.len:Int)>0)) (Zl z1.fst.a z1.fst.len (IntKind.i64.wrap ((↑z1.fst.len:Int)-1)) λa4=>ZC (cI IntKind.i64) ((a4.add ((IntKind.i64.wrap ((↑z1.fst.len:Int)-1)).toNat*2)).add 0) h2 λ(n2:Int)=>J3 (n2==x1.Price) h2) (J3 false h2)) (Q z1.fst h2)
theorem c362 {p0 p1 h Q} (hk:F362 p0 p1 h Q):ZA TP 362 [.pointer p0,.int .i64 p1] (cSl) h Q:=cc a362 n362 hk
def a369:Ann:=mkA 0 [] 0 (bc [])
def n369:An:=(s0 (sq (s0 (cn (s0 lf) lf)) (s0 lf)))
def F369 (p0:Option Addr) (h:Hp) (Q:Int->Hp->Prop):Prop:=ZB p0.isNone (Q 0 h) (ZR p0 λa1=>ZC cSl (a1.add 0) h λ(s1:Sl)=>Q (↑s1.len:Int) h)
theorem c369 {p0 h Q} (hk:F369 p0 h Q):ZA TP 369 [.pointer p0] (cI .i64) h Q:=cc a369 n369 hk
def a373:Ann:=mkA 2 [(3,1),(7,1),(12,1),(17,1),(22,1),(27,1),(32,1),(37,1)] 0 (bc [(1,ZK)])
def n373:An:=(s0 (s0 lf))
def F373 (p0:ZE) (h:Hp) (Q:Bool->Hp->Prop):Prop:=ZB (decide (p0.ID>=1)) (ZB (decide (p0.Seq>=1)) (ZB (decide (p0.Price>=1)) (ZB (decide (p0.Price<=1000000)) (ZB (decide (p0.Left>=1)) (ZB (decide (p0.Left<=1000000)) (ZB (decide (p0.Owner>=0)) (ZA TP 218 [.int .i64 p0.Side] cB h λ(t1:Bool) h1=>Q t1 h1) (Q false h)) (Q false h)) (Q false h)) (Q false h)) (Q false h)) (Q false h)) (Q false h)
theorem c373 {p0 h Q} (hk:F373 p0 h Q):ZA TP 373 [ZK.enc p0] (cB) h Q:=cc a373 n373 hk
def a372:Ann:=mkA 24 [(10,3),(12,3),(14,4)] 0 (bc [(3,ZK),(4,ZK)])
def n372:An:=(s0 (s0 lf))
def F372 (p0:ZE) (p1:ZE) (p2:Int) (h:Hp) (Q:Bool->Hp->Prop):Prop:=ZB (p2==4) (Q true h) (ZA TP 382 [.int .i64 p0.Side,.int .i64 p0.Price,.int .i64 p1.Price] cB h λ(t1:Bool) h1=>Q t1 h1)
theorem c372 {p0 p1 p2 h Q} (hk:F372 p0 p1 p2 h Q):ZA TP 372 [ZK.enc p0,ZK.enc p1,.int .i64 p2] (cB) h Q:=cc a372 n372 hk
def a354:Ann:=mkA 0 [] 0 (bc [])
def n354:An:=(s0 (s0 (s0 (sq (s0 (cn (s0 lf) lf)) (s0 lf)))))
def F354 (p0:Option Addr) (p1:ZE) (p2:Int) (h:Hp) (Q:Sl->Hp->Prop):Prop:=ZM (Obj.cells ⟨[.int .i64 p1.ID,.int .i64 p1.Seq,.int .i64 p1.Owner,.int .i64 p1.Side,.int .i64 p1.Price,.int .i64 p1.Left]⟩ 74) h λk1 h1=>ZM (Obj.cells ⟨[.int .i64 p2]⟩ 3) h1 λk2 h2=>ZC (cI IntKind.i64) ⟨k1,0+3,none⟩ h2 λ(n1:Int)=>ZA TP 330 [.int .i64 n1] (cI IntKind.i64) h2 λ(n2:Int) h3=>ZA TP 20 [.pointer p0,.int .i64 n2] cSl h3 λ(s1:Sl) h4=>ZA TP 228 [.slice s1.a s1.len s1.cap,.func (Fn.func 371) ⟨[]⟩ ⟨[.pointer (some ⟨k1,0,none⟩),.pointer (some ⟨k2,0,none⟩)]⟩] (cI IntKind.i64) h4 λ(n3:Int) h5=>ZB (decide (n3<0)) (Q s1 h5) (ZAI s1.len s1.cap none (some n3) λ(k3 k4:Nat)=>Q ⟨Zm s1.a k3 s1.cap 6,k4-k3,s1.cap-k3⟩ h5)
theorem c354 {p0 p1 p2 h Q} (hk:F354 p0 p1 p2 h Q):ZA TP 354 [.pointer p0,ZK.enc p1,.int .i64 p2] (cSl) h Q:=cc a354 n354 hk
def a370:Ann:=mkA 528 [(10,4),(23,9),(25,4),(29,9),(34,4)] 0 (bc [(4,ZK),(9,ZK)])
def n370:An:=(s0 (sq (s0 (cn (s0 lf) lf)) (s0 (sq (s0 (bk (.loop [(7,false,cI .i64),(19,false,cI .i64)] 8589410944 (s0 (sq (cn lf lf) (sq (.blockJ [(7,false,cI .i64)] 4292870784 (s0 (s0 (cn r0 lf)))) r0)))))) (s0 lf)))))
def F370 (p0:Option Addr) (p1:ZE) (p2:Int) (h:Hp) (Q:Int->Hp->Prop):Prop:=ZA TP 218 [.int .i64 p1.Side] cB h λ(t1:Bool) h1=>ZB (!t1) (Q 0 h1) (ZA TP 354 [.pointer p0,.agg ⟨[.int .i64 p1.ID,.int .i64 p1.Seq,.int .i64 p1.Owner,.int .i64 p1.Side,.int .i64 p1.Price,.int .i64 p1.Left]⟩,.int .i64 p2] cSl h1 λ(s1:Sl) h2=>Zj (0,0) h2 λ(J1:Int×Int->Hp->Prop) (z1:Int×Int) h3=>ZB (decide (z1.snd<(↑s1.len:Int))) (ZY (λ(n1:Int) h4=>J1 (n1,IntKind.i64.wrap (z1.snd+1)) h4) λ(J2:Int->Hp->Prop)=>Zl s1.a s1.len z1.snd λa1=>ZC ZK (a1.add (z1.snd.toNat*6)) h3 λ(x1:ZE)=>ZB (x1.Owner != p1.Owner) (J2 (IntKind.i64.wrap (z1.fst+x1.Left)) h3) (J2 z1.fst h3)) (Q (ZVA (ZJy z1.fst p1.Left) 0) h3))
theorem c370 {p0 p1 p2 h Q} (hk:F370 p0 p1 p2 h Q):ZA TP 370 [.pointer p0,ZK.enc p1,.int .i64 p2] (cI .i64) h Q:=cc a370 n370 hk
def a368:Ann:=mkA 0 [] 0 (bc [])
def n368:An:=(s0 (sq (.join [(18,false,cB)] 523776 r0 (cn (s0 lf) lf)) (.join [] 33030208 (s0 (cn (sq (s0 (cn (s0 lf) lf)) r0) lf)) (sq (s0 (bk (.loop [(27,false,cI .i64)] 137304736064 (s0 (sq (cn lf lf) (sq (bk (s0 (s0 (cn (s0 lf) lf)))) r0)))))) (sq (.reg [(1,[]),(0,[1]),(2,[]),(3,[]),(4,[])]) lf)))))
def F368 (p0:Option Addr) (p1:ZE) (p2:Int) (h:Hp) (Q:Bool->Hp->Prop):Prop:=ZM (Obj.cells ⟨[.int .i64 p1.ID,.int .i64 p1.Seq,.int .i64 p1.Owner,.int .i64 p1.Side,.int .i64 p1.Price,.int .i64 p1.Left]⟩ 74) h λk1 h1=>ZY (λ(t1:Bool) h2=>ZB t1 (Q false h2) (ZY (λu1 h3=>ZM (Obj.cells ⟨[.int .i64 1,.int .i64 2]⟩ 3) h3 λk2 h4=>Zj 0 h4 λ(J1:Int->Hp->Prop) (n1:Int) h5=>ZB (decide (n1<2)) (Zl (some ⟨k2,0,none⟩) 2 n1 λa1=>ZC (cI IntKind.i64) (a1.add (n1.toNat*1)) h5 λ(n2:Int)=>ZA TP 20 [.pointer p0,.int .i64 n2] cSl h5 λ(s1:Sl) h6=>ZA TP 374 [.slice s1.a s1.len s1.cap,.func (Fn.func 381) ⟨[]⟩ ⟨[.pointer (some ⟨k1,0,none⟩)]⟩] cB h6 λ(t2:Bool) h7=>ZB t2 (Q false h7) (J1 (IntKind.i64.wrap (n1+1)) h7)) (ZC ZK ⟨k1,0,none⟩ h5 λ(x1:ZE)=>ZA TP 41 [] cP h5 λ(p1:Option Addr) h8=>(h8.rds ⟨k1,0,none⟩ [.int .i64 x1.ID,.int .i64 x1.Seq,.int .i64 x1.Owner,.int .i64 x1.Side,.int .i64 x1.Price,.int .i64 x1.Left]/\True)/\ZA TP 357 [.pointer p1,.agg ⟨[.int .i64 x1.ID,.int .i64 x1.Seq,.int .i64 x1.Owner,.int .i64 x1.Side,.int .i64 x1.Price,.int .i64 x1.Left]⟩] (cI IntKind.i64) h8 λ(n3:Int) h9=>Q (n3==0) h9)) λ(J2:PUnit->Hp->Prop)=>ZB (p2==4) (ZC (cI IntKind.i64) ⟨k1,0+4,none⟩ h2 λ(n4:Int)=>ZB (n4 != 0) (Q false h2) (ZV (cI IntKind.i64) ⟨k1,0+4,none⟩ 1 h2 λh10=>J2 PUnit.unit h10)) (J2 PUnit.unit h2))) λ(J3:Bool->Hp->Prop)=>ZB p0.isNone (J3 true h1) (ZB (decide (p2<0)) (J3 true h1) (J3 (decide (p2>4)) h1))
theorem c368 {p0 p1 p2 h Q} (hk:F368 p0 p1 p2 h Q):ZA TP 368 [.pointer p0,ZK.enc p1,.int .i64 p2] (cB) h Q:=cc a368 n368 hk
def a356:Ann:=mkA 0 [] 0 (bc [])
def n356:An:=(s0 (s0 lf))
def F356 (p0:Int) (h:Hp) (Q:Bool->Hp->Prop):Prop:=ZB (p0==0) (Q true h) (Q (p0==3) h)
theorem c356 {p0 h Q} (hk:F356 p0 h Q):ZA TP 356 [.int .i64 p0] (cB) h Q:=cc a356 n356 hk
def a353:Ann:=mkA 16 [(40,4)] 0 (bc [(4,ZK)])
def n353:An:=(s0 (sq (bk (s0 (cn (s0 lf) (.join [(13,false,cB)] 2088960 r0 (cn (s0 lf) (.join [(21,false,cB)] 4292870144 r0 (cn (s0 lf) (.join [(32,false,cB)] 17587891077120 (rg [0,1,2,3,4,5,7,8,6,9,10,11]) (cn (s0 lf) lf))))))))) (s0 lf)))
def F353 (p0:Option Addr) (p1:ZE) (p2:Int) (h:Hp) (Q:Int->Hp->Prop):Prop:=ZA TP 368 [.pointer p0,.agg ⟨[.int .i64 p1.ID,.int .i64 p1.Seq,.int .i64 p1.Owner,.int .i64 p1.Side,.int .i64 p1.Price,.int .i64 p1.Left]⟩,.int .i64 p2] cB h λ(t1:Bool) h1=>ZB (!t1) (Q 1 h1) (ZY (λ(t2:Bool) h2=>ZB t2 (Q 3 h2) (ZY (λ(t3:Bool) h3=>ZB t3 (Q 16 h3) (ZY (λ(t4:Bool) h4=>ZB t4 (Q 17 h4) (Q 0 h4)) λ(J1:Bool->Hp->Prop)=>ZB (p2==2) (ZA TP 370 [.pointer p0,.agg ⟨[.int .i64 p1.ID,.int .i64 p1.Seq,.int .i64 p1.Owner,.int .i64 p1.Side,.int .i64 p1.Price,.int .i64 p1.Left]⟩,.int .i64 p2] (cI IntKind.i64) h3 λ(n1:Int) h5=>J1 (decide (n1<p1.Left)) h5) (J1 false h3))) λ(J2:Bool->Hp->Prop)=>ZB (p2==3) (ZA TP 354 [.pointer p0,.agg ⟨[.int .i64 p1.ID,.int .i64 p1.Seq,.int .i64 p1.Owner,.int .i64 p1.Side,.int .i64 p1.Price,.int .i64 p1.Left]⟩,.int .i64 p2] cSl h2 λ(s1:Sl) h6=>J2 (decide ((↑s1.len:Int)>0)) h6) (J2 false h2))) λ(J3:Bool->Hp->Prop)=>ZA TP 356 [.int .i64 p2] cB h1 λ(t5:Bool) h7=>ZB t5 (ZA TP 369 [.pointer p0] (cI IntKind.i64) h7 λ(n2:Int) h8=>J3 (decide (n2>=64)) h8) (J3 false h7))
theorem c353 {p0 p1 p2 h Q} (hk:F353 p0 p1 p2 h Q):ZA TP 353 [.pointer p0,ZK.enc p1,.int .i64 p2] (cI .i64) h Q:=cc a353 n353 hk
def a355:Ann:=mkA 96 [(12,5),(24,5),(28,5),(32,5),(34,5),(39,5),(45,5),(51,5),(54,5)] 0 (bc [(5,ZK),(6,ZDj)])
def n355:An:=(s0 (sq (rg [0,1,2,4,5,3,6,7]) (s0 (.join [] 549747425280 (s0 (cn r0 r0)) (sq (rg [0,1,2,3,4,6,7,8,9,10,12,13,14,15,16,17,18,5,11,19,20]) lf)))))
def F355 (p0:Option Addr) (p1:Option Addr) (p2:ZE) (h:Hp) (Q:ZH5->Hp->Prop):Prop:=ZR p1 λa1=>ZC (cI IntKind.i64) ⟨a1.block,a1.off+5,none⟩ h λ(n1:Int)=>ZR p1 λa2=>ZC (cI IntKind.i64) ⟨a2.block,a2.off+5,none⟩ h λ(n2:Int)=>ZR p1 λa3=>ZV (cI IntKind.i64) ⟨a3.block,a3.off+5,none⟩ (IntKind.i64.wrap (n2-ZJy n1 p2.Left)) h λh1=>ZY (λu1 h2=>ZR p1 λa4=>ZR p1 λa5=>ZC (cI IntKind.i64) (a4.add 0) h2 λ(n3:Int)=>ZC (cI IntKind.i64) ⟨a5.block,a5.off+2,none⟩ h2 λ(n4:Int)=>Q {Maker:=p2.ID,Taker:=n3,MakerParty:=p2.Owner,TakerParty:=n4,Price:=p2.Price,Qty:=ZJy n1 p2.Left,Left:=IntKind.i64.wrap (p2.Left-ZJy n1 p2.Left):ZH5} h2) λ(J1:PUnit->Hp->Prop)=>ZB (ZJy n1 p2.Left==p2.Left) (ZA TP 85 [.pointer p0,.int .i64 p2.ID] (ZW [ZK,cB]) h1 λ(z1:ZE×Bool) h3=>J1 PUnit.unit h3) (ZA TP 280 [.pointer p0,.int .i64 p2.ID,.int .i64 (IntKind.i64.wrap (p2.Left-ZJy n1 p2.Left))] (cI IntKind.i64) h1 λ(n5:Int) h4=>J1 PUnit.unit h4)
theorem c355 {p0 p1 p2 h Q} (hk:F355 p0 p1 p2 h Q):ZA TP 355 [.pointer p0,.pointer p1,ZK.enc p2] (ZDj) h Q:=cc a355 n355 hk
def a323:Ann:=mkA 4096 [(32,12),(38,12),(42,12),(44,12),(46,12)] 0 (bc [(12,ZK)])
def n323:An:=(s0 (sq (s0 (s0 (cn (s0 lf) lf))) (sq (s0 (.blockJ [(6,false,cSl),(7,false,cSl)] 288230376118161600 (.loop [(6,false,cSl),(7,false,cSl),(25,false,cI .i64)] 288230376118161600 (s0 (sq (cn lf lf) (sq (.blockJ [(6,false,cSl),(7,false,cSl)] 144115187941642432 (s0 (sq (s0 (cn lf lf)) (sq (s0 (cn (s0 (s0 lf)) lf)) r0)))) r0)))))) (.join [] 294859674803201114112 (.join [(64,false,cB)] 36605257771267391488 r0 (cn r0 lf)) (sq (rg [0,1,2,4,5,3,6,7]) lf)))))
def F323 (p0:Option Addr) (p1:ZE) (p2:Int) (h:Hp) (Q:Sl×Sl×Int×Int->Hp->Prop):Prop:=ZM (Obj.cells ⟨[.int .i64 p1.ID,.int .i64 p1.Seq,.int .i64 p1.Owner,.int .i64 p1.Side,.int .i64 p1.Price,.int .i64 p1.Left]⟩ 74) h λk1 h1=>ZC ZK ⟨k1,0,none⟩ h1 λ(x1:ZE)=>ZA TP 353 [.pointer p0,.agg ⟨[.int .i64 x1.ID,.int .i64 x1.Seq,.int .i64 x1.Owner,.int .i64 x1.Side,.int .i64 x1.Price,.int .i64 x1.Left]⟩,.int .i64 p2] (cI IntKind.i64) h1 λ(n1:Int) h2=>ZB (n1 != 0) (Q (⟨none,0,0⟩,⟨none,0,0⟩,0,n1) h2) (ZC ZK ⟨k1,0,none⟩ h2 λ(x2:ZE)=>ZA TP 354 [.pointer p0,.agg ⟨[.int .i64 x2.ID,.int .i64 x2.Seq,.int .i64 x2.Owner,.int .i64 x2.Side,.int .i64 x2.Price,.int .i64 x2.Left]⟩,.int .i64 p2] cSl h2 λ(s1:Sl) h3=>ZY (λ(z1:Sl×Sl) h4=>ZY (λu1 h5=>ZC (cI IntKind.i64) ⟨k1,0+5,none⟩ h5 λ(n2:Int)=>Q (z1.fst,z1.snd,n2,0) h5) λ(J1:PUnit->Hp->Prop)=>ZY (λ(t1:Bool) h6=>ZB t1 (ZC ZK ⟨k1,0,none⟩ h6 λ(x3:ZE)=>ZA TP 357 [.pointer p0,.agg ⟨[.int .i64 x3.ID,.int .i64 x3.Seq,.int .i64 x3.Owner,.int .i64 x3.Side,.int .i64 x3.Price,.int .i64 x3.Left]⟩] (cI IntKind.i64) h6 λ(n3:Int) h7=>J1 PUnit.unit h7) (J1 PUnit.unit h6)) λ(J2:Bool->Hp->Prop)=>ZA TP 356 [.int .i64 p2] cB h4 λ(t2:Bool) h8=>ZB t2 (ZC (cI IntKind.i64) ⟨k1,0+5,none⟩ h8 λ(n4:Int)=>J2 (decide (n4>0)) h8) (J2 false h8)) λ(J3:Sl×Sl->Hp->Prop)=>Zj ({a:=none,len:=0,cap:=0:Sl},{a:=none,len:=0,cap:=0:Sl},0) h3 λ(J4:Sl×Sl×Int->Hp->Prop) (z2:Sl×Sl×Int) h9=>ZB (decide (z2.snd.snd<(↑s1.len:Int))) (ZY (λ(z3:Sl×Sl) h10=>J4 (z3.fst,z3.snd,IntKind.i64.wrap (z2.snd.snd+1)) h10) λ(J5:Sl×Sl->Hp->Prop)=>Zl s1.a s1.len z2.snd.snd λa1=>ZC ZK (a1.add (z2.snd.snd.toNat*6)) h9 λ(x4:ZE)=>ZC (cI IntKind.i64) ⟨k1,0+5,none⟩ h9 λ(n5:Int)=>ZB (n5==0) (J3 (z2.fst,z2.snd.fst) h9) (ZC (cI IntKind.i64) ⟨k1,0+2,none⟩ h9 λ(n6:Int)=>ZB (x4.Owner==n6) (ZA TP 85 [.pointer p0,.int .i64 x4.ID] (ZW [ZK,cB]) h9 λ(z4:ZE×Bool) h11=>ZM (Obj.cells ⟨[.int .i64 x4.ID,.int .i64 x4.Owner,.int .i64 x4.Left]⟩ 394) h11 λk2 h12=>ZX ZII 394 24 z2.snd.fst.a z2.snd.fst.len z2.snd.fst.cap (some ⟨k2,0,none⟩) 1 h12 λ(p1:Option Addr) (k3 k4:Nat) h13=>J5 (z2.fst,⟨p1,k3,k4⟩) h13) (ZA TP 355 [.pointer p0,.pointer (some ⟨k1,0,none⟩),.agg ⟨[.int .i64 x4.ID,.int .i64 x4.Seq,.int .i64 x4.Owner,.int .i64 x4.Side,.int .i64 x4.Price,.int .i64 x4.Left]⟩] ZDj h9 λ(x5:ZH5) h14=>ZM (Obj.cells ⟨[.int .i64 x5.Maker,.int .i64 x5.Taker,.int .i64 x5.MakerParty,.int .i64 x5.TakerParty,.int .i64 x5.Price,.int .i64 x5.Qty,.int .i64 x5.Left]⟩ 396) h14 λk5 h15=>ZX ZDj 396 56 z2.fst.a z2.fst.len z2.fst.cap (some ⟨k5,0,none⟩) 1 h15 λ(p2:Option Addr) (k6 k7:Nat) h16=>J5 (⟨p2,k6,k7⟩,z2.snd.fst) h16))) (J3 (z2.fst,z2.snd.fst) h9))
theorem c323 {p0 p1 p2 h Q} (hk:F323 p0 p1 p2 h Q):ZA TP 323 [.pointer p0,ZK.enc p1,.int .i64 p2] (ZW [cSl,cSl,cI .i64,cI .i64]) h Q:=cc a323 n323 hk
def a331:Ann:=mkA 2624 [(32,9),(36,9)] 0 (bc [(6,ZAl),(9,ZCK),(11,ZAl)])
def n331:An:=(s0 (sq (.join [(21,false,cB)] 4186112 r0 (cn (s0 lf) lf)) (sq (s0 (bk (.loop [(2,false,cI .i64),(6,true,ZAl),(27,false,cI .i64)] 4503599493160516 (s0 (sq (cn lf lf) (sq (bk (s0 (s0 (s0 (s0 r0))))) r0)))))) (s0 lf))))
def F331 (p0:Option Addr) (p1:Int) (p2:Int) (h:Hp) (Q:ZFU×Bool->Hp->Prop):Prop:=ZY (λ(t1:Bool) h1=>ZB t1 (Q ({Hi:=0,Lo:=0:ZFU},false) h1) (ZA TP 362 [.pointer p0,.int .i64 p1] cSl h1 λ(s1:Sl) h2=>Zj (p2,{Hi:=0,Lo:=0:ZFU},0) h2 λ(J1:Int×ZFU×Int->Hp->Prop) (z1:Int×ZFU×Int) h3=>ZB (decide (z1.snd.snd<(↑s1.len:Int))) (Zl s1.a s1.len z1.snd.snd λa1=>ZC ZCK (a1.add (z1.snd.snd.toNat*2)) h3 λ(x1:ZFC)=>ZA TP 332 [.int .i64 x1.Price,.int .i64 (ZJy z1.fst x1.Qty)] (ZW [ZAl,cB]) h3 λ(z2:ZFU×Bool) h4=>ZA TP 363 [.agg ⟨[.int .u64 z1.snd.fst.Hi,.int .u64 z1.snd.fst.Lo]⟩,.agg ⟨[.int .u64 z2.fst.Hi,.int .u64 z2.fst.Lo]⟩] (ZW [ZAl,cB]) h4 λ(z3:ZFU×Bool) h5=>J1 (IntKind.i64.wrap (z1.fst-ZJy z1.fst x1.Qty),z3.fst,IntKind.i64.wrap (z1.snd.snd+1)) h5) (Q (z1.snd.fst,true) h3))) λ(J2:Bool->Hp->Prop)=>ZB (decide (p2<1)) (J2 true h) (ZA TP 361 [.pointer p0,.int .i64 p1] (cI IntKind.i64) h λ(n1:Int) h6=>J2 (decide (n1<p2)) h6)
theorem c331 {p0 p1 p2 h Q} (hk:F331 p0 p1 p2 h Q):ZA TP 331 [.pointer p0,.int .i64 p1,.int .i64 p2] (ZW [ZAl,cB]) h Q:=cc a331 n331 hk
def a332:Ann:=mkA 16 [] 0 (bc [(4,ZAl)])
def n332:An:=(s0 (sq (.join [(13,false,cB)] 16128 r0 (cn (s0 lf) lf)) (s0 (s0 lf))))
def F332 (p0:Int) (p1:Int) (h:Hp) (Q:ZFU×Bool->Hp->Prop):Prop:=ZY (λ(t1:Bool) h1=>ZB t1 (Q ({Hi:=0,Lo:=0:ZFU},false) h1) (ZA TP 364 [.int .u64 (IntKind.u64.wrap p0),.int .u64 (IntKind.u64.wrap p1)] (ZW [cI IntKind.u64,cI IntKind.u64]) h1 λ(z1:Int×Int) h2=>Q ({Hi:=z1.fst,Lo:=z1.snd:ZFU},true) h2)) λ(J1:Bool->Hp->Prop)=>ZB (decide (p0<0)) (J1 true h) (J1 (decide (p1<0)) h)
theorem c332 {p0 p1 h Q} (hk:F332 p0 p1 h Q):ZA TP 332 [.int .i64 p0,.int .i64 p1] (ZW [ZAl,cB]) h Q:=cc a332 n332 hk
def a333:Ann:=mkA 12 [(5,2),(7,3),(10,2),(12,3)] 0 (bc [(2,ZAl),(3,ZAl)])
def n333:An:=(s0 (sq (rg [0,1,2,3,5,6,7,8,4,9,10,11,12]) lf))
def F333 (p0:ZFU) (p1:ZFU) (h:Hp) (Q:Int->Hp->Prop):Prop:=ZA TP 365 [.int .u64 p0.Hi,.int .u64 p1.Hi] (cI IntKind.i64) h λ(n1:Int) h1=>ZA TP 365 [.int .u64 p0.Lo,.int .u64 p1.Lo] (cI IntKind.i64) h1 λ(n2:Int) h2=>ZM (Obj.cells ⟨[.int .i64 n1,.int .i64 n2]⟩ 3) h2 λk1 h3=>ZA TP 326 [.slice (some ⟨k1,0,none⟩) 2 2] (cI IntKind.i64) h3 λ(n3:Int) h4=>Q n3 h4
theorem c333 {p0 p1 h Q} (hk:F333 p0 p1 h Q):ZA TP 333 [ZAl.enc p0,ZAl.enc p1] (cI .i64) h Q:=cc a333 n333 hk
def a334:Ann:=mkA 2 [(4,1),(8,1),(12,1)] 0 (bc [(1,ZAl)])
def n334:An:=(s0 (sq (.join [(11,false,cB)] 4080 r0 (cn (s0 lf) lf)) (s0 lf)))
def F334 (p0:ZFU) (h:Hp) (Q:Int×Bool->Hp->Prop):Prop:=ZY (λ(t1:Bool) h1=>ZB t1 (Q (0,false) h1) (Q (IntKind.i64.wrap p0.Lo,true) h1)) λ(J1:Bool->Hp->Prop)=>ZB (decide (p0.Hi>0)) (J1 true h) (J1 (decide (p0.Lo>9223372036854775807)) h)
theorem c334 {p0 h Q} (hk:F334 p0 h Q):ZA TP 334 [ZAl.enc p0] (ZW [cI .i64,cB]) h Q:=cc a334 n334 hk
def a335:Ann:=mkA 0 [] 0 (bc [])
def n335:An:=(s0 (sq (.join [(23,false,cB)] 16777152 r0 (cn (s0 lf) lf)) (s0 lf)))
def F335 (p0:Int) (p1:Int) (h:Hp) (Q:Int×Bool->Hp->Prop):Prop:=ZY (λ(t1:Bool) h1=>ZB t1 (Q (0,false) h1) (Q (IntKind.i64.wrap (p0+p1),true) h1)) λ(J1:Bool->Hp->Prop)=>ZB (decide (p1>0)) (ZB (decide (p0>IntKind.i64.wrap (9223372036854775807-p1))) (J1 true h) (ZB (decide (p1<0)) (J1 (decide (p0<IntKind.i64.wrap ((-9223372036854775808)-p1))) h) (J1 false h))) (ZB (decide (p1<0)) (J1 (decide (p0<IntKind.i64.wrap ((-9223372036854775808)-p1))) h) (J1 false h))
theorem c335 {p0 p1 h Q} (hk:F335 p0 p1 h Q):ZA TP 335 [.int .i64 p0,.int .i64 p1] (ZW [cI .i64,cB]) h Q:=cc a335 n335 hk
def a337:Ann:=mkA 0 [] 0 (bc [])
def n337:An:=(s0 (sq (.join [(23,false,cB)] 16777152 r0 (cn (s0 lf) lf)) (s0 lf)))
def F337 (p0:Int) (p1:Int) (h:Hp) (Q:Int×Bool->Hp->Prop):Prop:=ZY (λ(t1:Bool) h1=>ZB t1 (Q (0,false) h1) (Q (IntKind.i64.wrap (p0-p1),true) h1)) λ(J1:Bool->Hp->Prop)=>ZB (decide (p1<0)) (ZB (decide (p0>IntKind.i64.wrap (9223372036854775807+p1))) (J1 true h) (ZB (decide (p1>0)) (J1 (decide (p0<IntKind.i64.wrap ((-9223372036854775808)+p1))) h) (J1 false h))) (ZB (decide (p1>0)) (J1 (decide (p0<IntKind.i64.wrap ((-9223372036854775808)+p1))) h) (J1 false h))
theorem c337 {p0 p1 h Q} (hk:F337 p0 p1 h Q):ZA TP 337 [.int .i64 p0,.int .i64 p1] (ZW [cI .i64,cB]) h Q:=cc a337 n337 hk
def a363:Ann:=mkA 28 [(11,2),(13,3),(19,2),(21,3)] 0 (bc [(2,ZAl),(3,ZAl),(4,ZAl)])
def n363:An:=(s0 (s0 (s0 (sq (s0 (cn (s0 lf) lf)) (s0 lf)))))
def F363 (p0:ZFU) (p1:ZFU) (h:Hp) (Q:ZFU×Bool->Hp->Prop):Prop:=ZOT TP 378 [.int .u64 p0.Lo,.int .u64 p1.Lo,.int .u64 0] (ZW [cI IntKind.u64,cI IntKind.u64]) h λ(z1:Int×Int)=>ZOT TP 378 [.int .u64 p0.Hi,.int .u64 p1.Hi,.int .u64 z1.snd] (ZW [cI IntKind.u64,cI IntKind.u64]) h λ(z2:Int×Int)=>ZB (decide (z2.snd>0)) (Q ({Hi:=0,Lo:=0:ZFU},false) h) (Q ({Hi:=z2.fst,Lo:=z1.fst:ZFU},true) h)
theorem c363 {p0 p1 h Q} (hk:F363 p0 p1 h Q):ZA TP 363 [ZAl.enc p0,ZAl.enc p1] (ZW [ZAl,cB]) h Q:=cc a363 n363 hk
def a288:Ann:=mkA 48 [(7,4),(9,5),(12,4),(14,5),(19,4),(21,5)] 0 (bc [(4,ZS),(5,ZS)])
def n288:An:=(s0 (sq (s0 (cn (s0 lf) lf)) (sq (rg [0,2,3,4,5,1,6,7]) lf)))
def F288 (p0:Int) (p1:Za) (p2:Za) (h:Hp) (Q:Bool->Hp->Prop):Prop:=ZB (p1.Price==p2.Price) (Q (decide (p1.ID<p2.ID)) h) (ZA TP 330 [.int .i64 p0] (cI IntKind.i64) h λ(n1:Int) h1=>ZA TP 102 [.int .i64 n1,.int .i64 p1.Price,.int .i64 p2.Price] cB h1 λ(t1:Bool) h2=>Q t1 h2)
theorem c288 {p0 p1 p2 h Q} (hk:F288 p0 p1 p2 h Q):ZA TP 288 [.int .i64 p0,ZS.enc p1,ZS.enc p2] (cB) h Q:=cc a288 n288 hk
def a213:Ann:=mkA 336 [] 0 (bc [(4,ZS),(6,ZS),(8,ZS)])
def n213:An:=(s0 (sq (.join [(16,false,cB)] 130560 r0 (cn (s0 lf) lf)) (s0 (sq (s0 (bk (.loop [(6,true,ZS),(23,false,cI .i64)] 8581546304 (s0 (sq (cn lf lf) (sq (.blockJ [(6,true,ZS)] 4261413184 (s0 (s0 (cn r0 lf)))) r0)))))) (s0 lf)))))
def F213 (p0:Int) (p1:Sl) (h:Hp) (Q:Za×Bool->Hp->Prop):Prop:=ZY (λ(t1:Bool) h1=>ZB t1 (Q ({ID:=0,Ask:=0,Dealer:=0,Price:=0,Expires:=0,Live:=false:Za},false) h1) (Zl p1.a p1.len 0 λa1=>ZC ZS (a1.add 0) h1 λ(x1:Za)=>Zj (x1,0) h1 λ(J1:Za×Int->Hp->Prop) (z1:Za×Int) h2=>ZB (decide (z1.snd<(↑p1.len:Int))) (ZY (λ(x2:Za) h3=>J1 (x2,IntKind.i64.wrap (z1.snd+1)) h3) λ(J2:Za->Hp->Prop)=>Zl p1.a p1.len z1.snd λa2=>ZC ZS (a2.add (z1.snd.toNat*6)) h2 λ(x3:Za)=>ZA TP 288 [.int .i64 p0,.agg ⟨[.int .i64 x3.ID,.int .i64 x3.Ask,.int .i64 x3.Dealer,.int .i64 x3.Price,.int .i64 x3.Expires,.bool x3.Live]⟩,.agg ⟨[.int .i64 z1.fst.ID,.int .i64 z1.fst.Ask,.int .i64 z1.fst.Dealer,.int .i64 z1.fst.Price,.int .i64 z1.fst.Expires,.bool z1.fst.Live]⟩] cB h2 λ(t2:Bool) h4=>ZB t2 (J2 x3 h4) (J2 z1.fst h4)) (Q (z1.fst,true) h2))) λ(J3:Bool->Hp->Prop)=>ZA TP 218 [.int .i64 p0] cB h λ(t3:Bool) h5=>ZB (!t3) (J3 true h5) (J3 ((↑p1.len:Int)==0) h5)
theorem c213 {p0 p1 h Q} (hk:F213 p0 p1 h Q):ZA TP 213 [.int .i64 p0,.slice p1.a p1.len p1.cap] (ZW [ZS,cB]) h Q:=cc a213 n213 hk
def a290:Ann:=mkA 2560 [] 0 (bc [(9,ZAl),(11,ZAl)])
def n290:An:=(s0 (sq (.join [(24,false,cB)] 33538048 r0 (cn (s0 lf) lf)) (s0 (sq (s0 (cn (s0 lf) lf)) (s0 (s0 (sq (.join [(57,false,cB)] 288212783965667328 r0 (cn (s0 lf) lf)) (s0 lf))))))))
def F290 (p0:Option Addr) (p1:Int) (p2:Int) (p3:Int) (h:Hp) (Q:Int->Hp->Prop):Prop:=ZY (λ(t1:Bool) h1=>ZB t1 (Q 1 h1) (ZA TP 330 [.int .i64 p1] (cI IntKind.i64) h1 λ(n1:Int) h2=>ZA TP 331 [.pointer p0,.int .i64 n1,.int .i64 p3] (ZW [ZAl,cB]) h2 λ(z1:ZFU×Bool) h3=>ZB (!z1.snd) (Q 0 h3) (ZA TP 332 [.int .i64 p2,.int .i64 p3] (ZW [ZAl,cB]) h3 λ(z2:ZFU×Bool) h4=>ZA TP 333 [.agg ⟨[.int .u64 z1.fst.Hi,.int .u64 z1.fst.Lo]⟩,.agg ⟨[.int .u64 z2.fst.Hi,.int .u64 z2.fst.Lo]⟩] (cI IntKind.i64) h4 λ(n2:Int) h5=>ZY (λ(t2:Bool) h6=>ZB t2 (Q 13 h6) (Q 0 h6)) λ(J1:Bool->Hp->Prop)=>ZB (p1==1) (ZB (decide (n2<0)) (J1 true h5) (ZB (p1==2) (J1 (decide (n2>0)) h5) (J1 false h5))) (ZB (p1==2) (J1 (decide (n2>0)) h5) (J1 false h5))))) λ(J2:Bool->Hp->Prop)=>ZA TP 218 [.int .i64 p1] cB h λ(t3:Bool) h7=>ZB (!t3) (J2 true h7) (ZB (decide (p2<1)) (J2 true h7) (J2 (decide (p3<1)) h7))
theorem c290 {p0 p1 p2 p3 h Q} (hk:F290 p0 p1 p2 p3 h Q):ZA TP 290 [.pointer p0,.int .i64 p1,.int .i64 p2,.int .i64 p3] (cI .i64) h Q:=cc a290 n290 hk
def a102:Ann:=mkA 0 [] 0 (bc [])
def n102:An:=(s0 (s0 lf))
def F102 (p0:Int) (p1:Int) (p2:Int) (h:Hp) (Q:Bool->Hp->Prop):Prop:=ZB (p0==1) (ZB (decide (p1>p2)) (Q true h) (ZB (p0==2) (Q (decide (p1<p2)) h) (Q false h))) (ZB (p0==2) (Q (decide (p1<p2)) h) (Q false h))
theorem c102 {p0 p1 p2 h Q} (hk:F102 p0 p1 p2 h Q):ZA TP 102 [.int .i64 p0,.int .i64 p1,.int .i64 p2] (cB) h Q:=cc a102 n102 hk
end Go.Proofs.YtkmniidiifpdgaaGreat
set_option maxRecDepth 20000
namespace Go.Proofs.YtkmniidiifpdgaaGreat
open Go.Eng
def a36:Ann:=mkA 0 [] 0 (bc [])
def n36:An:=(s0 (s0 lf))
def F36  (h:Hp) (Q:Option Addr->Hp->Prop):Prop:=ZM (Obj.cells ⟨[.slice none 0 0]⟩ 172) h λk1 h1=>Q (some ⟨k1,0,none⟩) h1
theorem c36  {h:Hp} {Q:Option Addr->Hp->Prop} (hk:F36  h Q):ZA TP 36 [] (cP) h Q:=cc a36 n36 hk
def a37:Ann:=mkA 0 [] 0 (bc [])
def n37:An:=(s0 (s0 lf))
def F37  (h:Hp) (Q:Option Addr->Hp->Prop):Prop:=ZM (Obj.cells ⟨[.slice none 0 0]⟩ 174) h λk1 h1=>Q (some ⟨k1,0,none⟩) h1
theorem c37  {h:Hp} {Q:Option Addr->Hp->Prop} (hk:F37  h Q):ZA TP 37 [] (cP) h Q:=cc a37 n37 hk
def a38:Ann:=mkA 0 [] 0 (bc [])
def n38:An:=(s0 (s0 lf))
def F38  (h:Hp) (Q:Option Addr->Hp->Prop):Prop:=ZM (Obj.cells ⟨[.slice none 0 0]⟩ 176) h λk1 h1=>Q (some ⟨k1,0,none⟩) h1
theorem c38  {h:Hp} {Q:Option Addr->Hp->Prop} (hk:F38  h Q):ZA TP 38 [] (cP) h Q:=cc a38 n38 hk
def a39:Ann:=mkA 0 [] 0 (bc [])
def n39:An:=(s0 (sq (.join [(19,false,cB)] 1048512 r0 (cn (s0 lf) lf)) (s0 (sq (s0 (bk (.loop [(25,false,cI .i64)] 549722259456 (s0 (sq (cn lf lf) (sq (bk (rg [0,1,2,3,5,4,6,7,8,9,10,11])) r0)))))) (s0 lf)))))
def F39 (p0:Int) (p1:Int) (h:Hp) (Q:Option Addr->Hp->Prop):Prop:=ZY (λ(t1:Bool) h1=>ZB t1 (Q none h1) (ZEG p0 p0 8 (ZM (Obj.cells {toList:=Z3 p0.toNat [.int .i64 0]:Array Value} 2) h1 λk1 h2=>ZM (Obj.cells ⟨[.slice none 0 0,.slice (some ⟨k1,0,none⟩) p0.toNat p0.toNat]⟩ 179) h2 λk2 h3=>Zj 0 h3 λ(J1:Int->Hp->Prop) (n1:Int) h4=>ZB (decide (n1<p0)) (ZC cSl ⟨k2,0,none⟩ h4 λ(s1:Sl)=>ZEG p1 p1 8 (ZM (Obj.cells {toList:=Z3 p1.toNat [.int .i64 0]:Array Value} 2) h4 λk3 h5=>ZM (Obj.cells ⟨[.slice (some ⟨k3,0,none⟩) p1.toNat p1.toNat]⟩ 76) h5 λk4 h6=>ZX cSl 76 24 s1.a s1.len s1.cap (some ⟨k4,0,none⟩) 1 h6 λ(p1:Option Addr) (k5 k6:Nat) h7=>ZV cSl ⟨k2,0,none⟩ ⟨p1,k5,k6⟩ h7 λh8=>J1 (IntKind.i64.wrap (n1+1)) h8)) (Q (some ⟨k2,0,none⟩) h4)))) λ(J2:Bool->Hp->Prop)=>ZB (decide (p0<1)) (J2 true h) (ZB (decide (p0>8)) (J2 true h) (ZB (decide (p1<1)) (J2 true h) (J2 (decide (p1>4)) h)))
theorem c39 {p0 p1 h Q} (hk:F39 p0 p1 h Q):ZA TP 39 [.int .i64 p0,.int .i64 p1] (cP) h Q:=cc a39 n39 hk
def a40:Ann:=mkA 0 [] 0 (bc [])
def n40:An:=(s0 (s0 lf))
def F40  (h:Hp) (Q:Option Addr->Hp->Prop):Prop:=ZM (Obj.cells ⟨[.slice none 0 0,.int .u64 0]⟩ 181) h λk1 h1=>Q (some ⟨k1,0,none⟩) h1
theorem c40  {h:Hp} {Q:Option Addr->Hp->Prop} (hk:F40  h Q):ZA TP 40 [] (cP) h Q:=cc a40 n40 hk
def a44:Ann:=mkA 0 [] 0 (bc [])
def n44:An:=(s0 (sq (s0 (cn (s0 lf) lf)) (s0 lf)))
def F44 (p0:Option Addr) (h:Hp) (Q:Sl->Hp->Prop):Prop:=ZB p0.isNone (Q ⟨none,0,0⟩ h) (ZR p0 λa1=>ZC cSl (a1.add 0) h λ(s1:Sl)=>ZA TP 75 [.slice s1.a s1.len s1.cap] cSl h λ(s2:Sl) h1=>Q s2 h1)
theorem c44 {p0 h Q} (hk:F44 p0 h Q):ZA TP 44 [.pointer p0] (cSl) h Q:=cc a44 n44 hk
def a45:Ann:=mkA 0 [] 0 (bc [])
def n45:An:=(s0 (sq (s0 (cn (s0 lf) lf)) (s0 lf)))
def F45 (p0:Option Addr) (h:Hp) (Q:Sl->Hp->Prop):Prop:=ZB p0.isNone (Q ⟨none,0,0⟩ h) (ZR p0 λa1=>ZC cSl (a1.add 0) h λ(s1:Sl)=>ZA TP 76 [.slice s1.a s1.len s1.cap] cSl h λ(s2:Sl) h1=>Q s2 h1)
theorem c45 {p0 h Q} (hk:F45 p0 h Q):ZA TP 45 [.pointer p0] (cSl) h Q:=cc a45 n45 hk
def a79:Ann:=mkA 64 [] 0 (bc [(6,ZCJ)])
def n79:An:=(s0 (s0 (s0 (s0 lf))))
def F79 (p0:Int) (p1:Int) (p2:Sl) (h:Hp) (Q:Out->Hp->Prop):Prop:=ZM (Obj.cells ⟨[.int .i64 0,.int .i64 0,.int .i64 0,.int .i64 0,.int .i64 0,.int .i64 0,.int .i64 0,.int .i64 0]⟩ 78) h λk1 h1=>ZV ZCJ ⟨k1,0,none⟩ {To:=p0,Msg_Kind:=p1,Msg_F_0:=0,Msg_F_1:=0,Msg_F_2:=0,Msg_F_3:=0,Msg_F_4:=0,Msg_F_5:=0:Out} h1 λh2=>ZAI 6 6 none none λ(k2 k3:Nat)=>ZBG (cI IntKind.i64) (Zm (some ⟨k1,0+1+1,none⟩) k2 6 1) (k3-k2) p2.a p2.len h2 λ(n1:Int) h3=>ZC ZCJ ⟨k1,0,none⟩ h3 λ(x1:Out)=>Q x1 h3
theorem c79 {p0 p1 p2 h Q} (hk:F79 p0 p1 p2 h Q):ZA TP 79 [.int .i64 p0,.int .i64 p1,.slice p2.a p2.len p2.cap] (ZCJ) h Q:=cc a79 n79 hk
def a80:Ann:=mkA 0 [] 0 (bc [])
def n80:An:=(s0 (sq (s0 (cn (s0 lf) lf)) (s0 (sq (bk (.loop [(5,false,cI .i64)] 1073741344 (sq (.join [(27,false,cB)] 268434944 r0 (cn lf lf)) (bk r0)))) (s0 (s0 (s0 lf)))))))
def F80 (p0:Option Addr) (p1:Int) (h:Hp) (Q:Sl->Hp->Prop):Prop:=ZB p0.isNone (Q ⟨none,0,0⟩ h) (Zj 0 h λ(J1:Int->Hp->Prop) (n1:Int) h1=>ZY (λ(t1:Bool) h2=>ZB t1 (J1 (IntKind.i64.wrap (n1+1)) h2) (ZR p0 λa1=>ZC cSl (a1.add 0) h2 λ(s1:Sl)=>ZAI s1.len s1.cap none (some n1) λ(k1 k2:Nat)=>ZA TP 138 [.slice (Zm s1.a k1 s1.cap 3) (k2-k1) (s1.cap-k1)] cSl h2 λ(s2:Sl) h3=>ZR p0 λa2=>ZC cSl (a2.add 0) h3 λ(s3:Sl)=>ZA TP 139 [.slice s3.a s3.len s3.cap,.int .i64 0,.int .i64 n1] cSl h3 λ(s4:Sl) h4=>ZR p0 λa3=>ZV cSl (a3.add 0) s4 h4 λh5=>Q s2 h5)) λ(J2:Bool->Hp->Prop)=>ZR p0 λa4=>ZC cSl (a4.add 0) h1 λ(s5:Sl)=>ZB (decide (n1<(↑s5.len:Int))) (ZR p0 λa5=>ZC cSl (a5.add 0) h1 λ(s6:Sl)=>Zl s6.a s6.len n1 λa6=>ZC (cI IntKind.i64) ((a6.add (n1.toNat*3)).add 0) h1 λ(n2:Int)=>J2 (decide (n2<=p1)) h1) (J2 false h1))
theorem c80 {p0 p1 h Q} (hk:F80 p0 p1 h Q):ZA TP 80 [.pointer p0,.int .i64 p1] (cSl) h Q:=cc a80 n80 hk
def a81:Ann:=mkA 16 [] 0 (bc [(4,ZAb)])
def n81:An:=(s0 (s0 (sq (s0 (cn (s0 lf) lf)) (s0 lf))))
def F81 (p0:Option Addr) (p1:Int) (h:Hp) (Q:Ask×Bool->Hp->Prop):Prop:=ZA TP 140 [.pointer p0,.int .i64 p1] (ZW [cI IntKind.i64,cB]) h λ(z1:Int×Bool) h1=>ZB (!z1.snd) (Q ({ID:=0,Client:=0,Bond:=0,Side:=0,Qty:=0,Dealers:=0,Ends:=0,Until:=0,State:=0,Hit:=0:Ask},false) h1) (ZR p0 λa1=>ZC cSl (a1.add 0) h1 λ(s1:Sl)=>Zl s1.a s1.len z1.fst λa2=>ZC ZAb (a2.add (z1.fst.toNat*10)) h1 λ(x1:Ask)=>Q (x1,true) h1)
theorem c81 {p0 p1 h Q} (hk:F81 p0 p1 h Q):ZA TP 81 [.pointer p0,.int .i64 p1] (ZW [ZAb,cB]) h Q:=cc a81 n81 hk
def a82:Ann:=mkA 0 [] 0 (bc [])
def n82:An:=(s0 (s0 (sq (.join [(25,false,cB)] 67100672 r0 (cn (s0 lf) lf)) (s0 (s0 lf)))))
def F82 (p0:Option Addr) (p1:Int) (h:Hp) (Q:Bool->Hp->Prop):Prop:=ZA TP 141 [.pointer p0,.int .i64 p1] (ZW [cI IntKind.i64,cB]) h λ(z1:Int×Bool) h1=>ZY (λ(t1:Bool) h2=>ZB t1 (Q false h2) (ZR p0 λa1=>ZC cSl (a1.add 0) h2 λ(s1:Sl)=>Zl s1.a s1.len z1.fst λa2=>ZV cB ⟨(a2.add (z1.fst.toNat*6)).block,(a2.add (z1.fst.toNat*6)).off+5,none⟩ false h2 λh3=>Q true h3)) λ(J1:Bool->Hp->Prop)=>ZB (!z1.snd) (J1 true h1) (ZR p0 λa3=>ZC cSl (a3.add 0) h1 λ(s2:Sl)=>Zl s2.a s2.len z1.fst λa4=>ZC cB ⟨(a4.add (z1.fst.toNat*6)).block,(a4.add (z1.fst.toNat*6)).off+5,none⟩ h1 λ(t2:Bool)=>J1 (!t2) h1)
theorem c82 {p0 p1 h Q} (hk:F82 p0 p1 h Q):ZA TP 82 [.pointer p0,.int .i64 p1] (cB) h Q:=cc a82 n82 hk
def a87:Ann:=mkA 0 [] 0 (bc [])
def n87:An:=(s0 (s0 lf))
def F87 (p0:Option Addr) (p1:Int) (h:Hp) (Q:Sl->Hp->Prop):Prop:=ZM (Obj.cells ⟨[.int .i64 p1]⟩ 3) h λk1 h1=>ZA TP 147 [.pointer p0,.func (Fn.func 148) ⟨[]⟩ ⟨[.pointer (some ⟨k1,0,none⟩)]⟩] cSl h1 λ(s1:Sl) h2=>Q s1 h2
theorem c87 {p0 p1 h Q} (hk:F87 p0 p1 h Q):ZA TP 87 [.pointer p0,.int .i64 p1] (cSl) h Q:=cc a87 n87 hk
def a89:Ann:=mkA 0 [] 0 (bc [])
def n89:An:=(s0 (sq (s0 (cn (s0 lf) lf)) (s0 (sq (s0 (cn (s0 lf) lf)) (s0 (s0 lf))))))
def F89 (p0:Option Addr) (p1:Int) (p2:Int) (h:Hp) (Q:Bool->Hp->Prop):Prop:=ZB p0.isNone (Q false h) (ZA TP 149 [.pointer p0,.int .i64 p1,.int .i64 p2] (cI IntKind.i64) h λ(n1:Int) h1=>ZB (decide (n1<0)) (Q false h1) (ZR p0 λa1=>ZC cSl (a1.add 0) h1 λ(s1:Sl)=>ZA TP 139 [.slice s1.a s1.len s1.cap,.int .i64 n1,.int .i64 (IntKind.i64.wrap (n1+1))] cSl h1 λ(s2:Sl) h2=>ZR p0 λa2=>ZV cSl (a2.add 0) s2 h2 λh3=>Q true h3))
theorem c89 {p0 p1 p2 h Q} (hk:F89 p0 p1 p2 h Q):ZA TP 89 [.pointer p0,.int .i64 p1,.int .i64 p2] (cB) h Q:=cc a89 n89 hk
def a140:Ann:=mkA 0 [] 0 (bc [])
def n140:An:=(s0 (sq (s0 (cn (s0 lf) lf)) (s0 lf)))
def F140 (p0:Option Addr) (p1:Int) (h:Hp) (Q:Int×Bool->Hp->Prop):Prop:=ZB p0.isNone (Q (0,false) h) (ZR p0 λa1=>ZC cSl (a1.add 0) h λ(s1:Sl)=>ZA TP 222 [.slice s1.a s1.len s1.cap,.int .i64 p1,.func (Fn.func 223) ⟨[]⟩ ⟨[]⟩] (ZW [cI IntKind.i64,cB]) h λ(z1:Int×Bool) h1=>Q (z1.fst,z1.snd) h1)
theorem c140 {p0 p1 h Q} (hk:F140 p0 p1 h Q):ZA TP 140 [.pointer p0,.int .i64 p1] (ZW [cI .i64,cB]) h Q:=cc a140 n140 hk
def a141:Ann:=mkA 0 [] 0 (bc [])
def n141:An:=(s0 (sq (s0 (cn (s0 lf) lf)) (s0 lf)))
def F141 (p0:Option Addr) (p1:Int) (h:Hp) (Q:Int×Bool->Hp->Prop):Prop:=ZB p0.isNone (Q (0,false) h) (ZR p0 λa1=>ZC cSl (a1.add 0) h λ(s1:Sl)=>ZA TP 224 [.slice s1.a s1.len s1.cap,.int .i64 p1,.func (Fn.func 225) ⟨[]⟩ ⟨[]⟩] (ZW [cI IntKind.i64,cB]) h λ(z1:Int×Bool) h1=>Q (z1.fst,z1.snd) h1)
theorem c141 {p0 p1 h Q} (hk:F141 p0 p1 h Q):ZA TP 141 [.pointer p0,.int .i64 p1] (ZW [cI .i64,cB]) h Q:=cc a141 n141 hk
def a142:Ann:=mkA 0 [] 0 (bc [])
def n142:An:=(s0 (s0 (sq (bk (s0 (cn (s0 lf) (s0 (cn (s0 lf) lf))))) (s0 (s0 lf)))))
def F142 (p0:Option Addr) (p1:Int) (h:Hp) (Q:Int->Hp->Prop):Prop:=ZA TP 226 [.pointer p0,.int .i64 p1] (ZW [cP,cI IntKind.i64]) h λ(z1:Option Addr×Int) h1=>ZB (z1.snd != 0) (Q z1.snd h1) (ZR z1.fst λa1=>ZC (cI IntKind.i64) ⟨a1.block,a1.off+8,none⟩ h1 λ(n1:Int)=>ZB (n1 != 2) (Q 11 h1) (ZR z1.fst λa2=>ZV (cI IntKind.i64) ⟨a2.block,a2.off+8,none⟩ 1 h1 λh2=>ZR z1.fst λa3=>ZV (cI IntKind.i64) ⟨a3.block,a3.off+9,none⟩ 0 h2 λh3=>ZR z1.fst λa4=>ZV (cI IntKind.i64) ⟨a4.block,a4.off+7,none⟩ 0 h3 λh4=>Q 0 h4))
theorem c142 {p0 p1 h Q} (hk:F142 p0 p1 h Q):ZA TP 142 [.pointer p0,.int .i64 p1] (cI .i64) h Q:=cc a142 n142 hk
def a143:Ann:=mkA 0 [] 0 (bc [])
def n143:An:=(s0 (s0 (sq (bk (s0 (cn (s0 lf) (.join [(19,false,cB)] 66584576 r0 (cn (s0 lf) (.join [(26,false,cB)] 1125899839733760 r0 (cn (s0 lf) lf))))))) (s0 (sq (s0 (cn r0 lf)) (s0 lf))))))
def F143 (p0:Option Addr) (p1:Int) (p2:Int) (h:Hp) (Q:Int->Hp->Prop):Prop:=ZA TP 226 [.pointer p0,.int .i64 p1] (ZW [cP,cI IntKind.i64]) h λ(z1:Option Addr×Int) h1=>ZB (z1.snd != 0) (Q z1.snd h1) (ZY (λ(t1:Bool) h2=>ZB t1 (Q 1 h2) (ZY (λ(t2:Bool) h3=>ZB t2 (Q 11 h3) (ZR z1.fst λa1=>ZV (cI IntKind.i64) ⟨a1.block,a1.off+8,none⟩ p2 h3 λh4=>ZR z1.fst λa2=>ZV (cI IntKind.i64) ⟨a2.block,a2.off+7,none⟩ 0 h4 λh5=>ZB (p2==4) (ZR z1.fst λa3=>ZV (cI IntKind.i64) ⟨a3.block,a3.off+9,none⟩ 0 h5 λh6=>Q 0 h6) (Q 0 h5))) λ(J1:Bool->Hp->Prop)=>ZR z1.fst λa4=>ZC (cI IntKind.i64) ⟨a4.block,a4.off+8,none⟩ h2 λ(n1:Int)=>ZB (n1==3) (J1 true h2) (ZR z1.fst λa5=>ZC (cI IntKind.i64) ⟨a5.block,a5.off+8,none⟩ h2 λ(n2:Int)=>ZB (n2==4) (J1 true h2) (ZB (p2==3) (ZR z1.fst λa6=>ZC (cI IntKind.i64) ⟨a6.block,a6.off+8,none⟩ h2 λ(n3:Int)=>J1 (n3 != 2) h2) (J1 false h2))))) λ(J2:Bool->Hp->Prop)=>ZB (p2 != 3) (J2 (p2 != 4) h1) (J2 false h1))
theorem c143 {p0 p1 p2 h Q} (hk:F143 p0 p1 p2 h Q):ZA TP 143 [.pointer p0,.int .i64 p1,.int .i64 p2] (cI .i64) h Q:=cc a143 n143 hk
def a144:Ann:=mkA 0 [] 0 (bc [])
def n144:An:=(sq (s0 (bk (.loop [(13,false,cI .i64)] 16769056 (s0 (sq (cn lf lf) (sq (bk (s0 r0)) r0)))))) (s0 r0))
def F144 (p0:Option Addr) (p1:Int) (h:Hp) (Q:Unit->Hp->Prop):Prop:=ZR p0 λa1=>ZC cP ⟨a1.block,a1.off+7,none⟩ h λ(p1_1:Option Addr)=>ZA TP 227 [.pointer p1_1,.int .i64 p1] cSl h λ(s1:Sl) h1=>Zj 0 h1 λ(J1:Int->Hp->Prop) (n1:Int) h2=>ZB (decide (n1<(↑s1.len:Int))) (Zl s1.a s1.len n1 λa2=>ZC (cI IntKind.i64) (a2.add (n1.toNat*1)) h2 λ(n2:Int)=>ZR p0 λa3=>ZC cP ⟨a3.block,a3.off+9,none⟩ h2 λ(p2:Option Addr)=>ZA TP 89 [.pointer p2,.int .i64 3,.int .i64 n2] cB h2 λ(t1:Bool) h3=>J1 (IntKind.i64.wrap (n1+1)) h3) (ZR p0 λa4=>ZC cP ⟨a4.block,a4.off+9,none⟩ h2 λ(p3:Option Addr)=>ZA TP 89 [.pointer p3,.int .i64 1,.int .i64 p1] cB h2 λ(t2:Bool) h4=>ZR p0 λa5=>ZC cP ⟨a5.block,a5.off+9,none⟩ h4 λ(p4:Option Addr)=>ZA TP 89 [.pointer p4,.int .i64 2,.int .i64 p1] cB h4 λ(t3:Bool) h5=>Q PUnit.unit h5)
theorem c144 {p0 p1 h Q} (hk:F144 p0 p1 h Q):ZA TP 144 [.pointer p0,.int .i64 p1] (ZW []) h Q:=cc a144 n144 hk
def a147:Ann:={prom:=128,refs:=[],dyn:=0,bcd:=λs=>match s with|7=>some (ZS)|_=>none,fnv:=λs=>match s with|1=>some (cB)|19=>some (cB)|_=>none,eqs:=ZCW eqL,cdc:=ZMd,res:=ZLt,pure:=ZCW [193],pan:=ZCW [192,276]}
def n147:An:=(s0 (sq (s0 (cn (s0 lf) lf)) (s0 (sq (s0 (bk (.loop [(5,false,cSl),(15,false,cI .i64)] 134185120 (s0 (sq (cn lf lf) (sq (.blockJ [(5,false,cSl)] 66977952 (s0 (s0 (cn r0 lf)))) r0)))))) (s0 lf)))))
def F147 (p0:Option Addr) (p1:FnV) (h:Hp) (Q:Sl->Hp->Prop):Prop:=ZB p0.isNone (Q ⟨none,0,0⟩ h) (ZR p0 λa1=>ZC cSl (a1.add 0) h λ(s1:Sl)=>Zj ({a:=none,len:=0,cap:=0:Sl},0) h λ(J1:Sl×Int->Hp->Prop) (z1:Sl×Int) h1=>ZB (decide (z1.snd<(↑s1.len:Int))) (ZY (λ(s2:Sl) h2=>J1 (s2,IntKind.i64.wrap (z1.snd+1)) h2) λ(J2:Sl->Hp->Prop)=>Zl s1.a s1.len z1.snd λa2=>ZC ZS (a2.add (z1.snd.toNat*6)) h1 λ(x1:Za)=>ZBV TP p1.g p1.first p1.cap [.agg ⟨[.int .i64 x1.ID,.int .i64 x1.Ask,.int .i64 x1.Dealer,.int .i64 x1.Price,.int .i64 x1.Expires,.bool x1.Live]⟩] cB h1 λ(t1:Bool) h3=>ZB t1 (ZM (Obj.cells ⟨[.int .i64 x1.ID,.int .i64 x1.Ask,.int .i64 x1.Dealer,.int .i64 x1.Price,.int .i64 x1.Expires,.bool x1.Live]⟩ 207) h3 λk1 h4=>ZX ZS 207 48 z1.fst.a z1.fst.len z1.fst.cap (some ⟨k1,0,none⟩) 1 h4 λ(p1:Option Addr) (k2 k3:Nat) h5=>J2 ⟨p1,k2,k3⟩ h5) (J2 z1.fst h3)) (Q z1.fst h1))
theorem c147 {p0 p1 h Q} (hk:F147 p0 p1 h Q):ZA TP 147 [.pointer p0,.func (Fn.func p1.g) p1.first p1.cap] (cSl) h Q:=cc a147 n147 hk
def a149:Ann:=mkA 0 [] 0 (bc [])
def n149:An:=(s0 (s0 lf))
def F149 (p0:Option Addr) (p1:Int) (p2:Int) (h:Hp) (Q:Int->Hp->Prop):Prop:=ZM (Obj.cells ⟨[.int .i64 p1]⟩ 3) h λk1 h1=>ZM (Obj.cells ⟨[.int .i64 p2]⟩ 2) h1 λk2 h2=>ZR p0 λa1=>ZC cSl (a1.add 0) h2 λ(s1:Sl)=>ZA TP 230 [.slice s1.a s1.len s1.cap,.func (Fn.func 231) ⟨[]⟩ ⟨[.pointer (some ⟨k1,0,none⟩),.pointer (some ⟨k2,0,none⟩)]⟩] (cI IntKind.i64) h2 λ(n1:Int) h3=>Q n1 h3
theorem c149 {p0 p1 p2 h Q} (hk:F149 p0 p1 p2 h Q):ZA TP 149 [.pointer p0,.int .i64 p1,.int .i64 p2] (cI .i64) h Q:=cc a149 n149 hk
def a208:Ann:=mkA 8 [(12,3),(23,3),(28,3),(33,3),(38,3),(43,3),(65,3),(73,3)] 0 (bc [(3,ZS)])
def n208:An:=(s0 (s0 (sq (.join [(46,false,cB)] 140737488224256 r0 (cn (s0 lf) lf)) (sq (s0 (bk (.loop [(4,false,cI .i64),(52,false,cI .i64)] 2475880078566256950170878736 (s0 (sq (cn lf lf) (sq (.blockJ [(4,false,cI .i64)] 1237940039267365876389643024 (s0 (s0 (.join [(82,false,cB)] 9671404251074024183955456 (rg [0,1,2,4,5,3,6,7,8,9,10,12,13,11,14,15,16,17,18,19,20,21]) (cn (s0 r0) lf))))) r0)))))) (sq (rg [0,1,2,3,5,6,4,7,8,9,10,11]) (s0 lf))))))
def F208 (p0:Option Addr) (p1:Za) (h:Hp) (Q:Int×Int->Hp->Prop):Prop:=ZA TP 141 [.pointer p0,.int .i64 p1.ID] (ZW [cI IntKind.i64,cB]) h λ(z1:Int×Bool) h1=>ZY (λ(t1:Bool) h2=>ZB t1 (Q (0,1) h2) (ZR p0 λa1=>ZC cSl (a1.add 0) h2 λ(s1:Sl)=>Zj (0,0) h2 λ(J1:Int×Int->Hp->Prop) (z2:Int×Int) h3=>ZB (decide (z2.snd<(↑s1.len:Int))) (ZY (λ(n1:Int) h4=>J1 (n1,IntKind.i64.wrap (z2.snd+1)) h4) λ(J2:Int->Hp->Prop)=>ZR p0 λa2=>ZC cSl (a2.add 0) h3 λ(s2:Sl)=>Zl s2.a s2.len z2.snd λa3=>ZY (λ(t2:Bool) h5=>ZB t2 (ZV cB ⟨(a3.add (z2.snd.toNat*6)).block,(a3.add (z2.snd.toNat*6)).off+5,none⟩ false h5 λh6=>ZC (cI IntKind.i64) ((a3.add (z2.snd.toNat*6)).add 0) h6 λ(n2:Int)=>J2 n2 h6) (J2 z2.fst h5)) λ(J3:Bool->Hp->Prop)=>ZC (cI IntKind.i64) ⟨(a3.add (z2.snd.toNat*6)).block,(a3.add (z2.snd.toNat*6)).off+1,none⟩ h3 λ(n3:Int)=>ZB (n3==p1.Ask) (ZC (cI IntKind.i64) ⟨(a3.add (z2.snd.toNat*6)).block,(a3.add (z2.snd.toNat*6)).off+2,none⟩ h3 λ(n4:Int)=>ZB (n4==p1.Dealer) (ZC cB ⟨(a3.add (z2.snd.toNat*6)).block,(a3.add (z2.snd.toNat*6)).off+5,none⟩ h3 λ(t3:Bool)=>J3 t3 h3) (J3 false h3)) (J3 false h3)) (ZR p0 λa4=>ZC cSl (a4.add 0) h3 λ(s3:Sl)=>ZM (Obj.cells ⟨[.int .i64 p1.ID,.int .i64 p1.Ask,.int .i64 p1.Dealer,.int .i64 p1.Price,.int .i64 p1.Expires,.bool p1.Live]⟩ 207) h3 λk1 h7=>ZA TP 282 [.slice s3.a s3.len s3.cap,.int .i64 z1.fst,.slice (some ⟨k1,0,none⟩) 1 1] cSl h7 λ(s4:Sl) h8=>ZR p0 λa5=>ZV cSl (a5.add 0) s4 h8 λh9=>Q (z2.fst,0) h9))) λ(J4:Bool->Hp->Prop)=>ZB p0.isNone (J4 true h1) (ZB z1.snd (J4 true h1) (ZB (decide (p1.ID<1)) (J4 true h1) (ZB (decide (p1.Ask<1)) (J4 true h1) (ZB (decide (p1.Price<1)) (J4 true h1) (ZB (decide (p1.Dealer<0)) (J4 true h1) (J4 (!p1.Live) h1))))))
theorem c208 {p0 p1 h Q} (hk:F208 p0 p1 h Q):ZA TP 208 [.pointer p0,ZS.enc p1] (ZW [cI .i64,cI .i64]) h Q:=cc a208 n208 hk
def a209:Ann:=mkA 8 [(11,3),(13,3)] 0 (bc [(3,ZBk)])
def n209:An:=(s0 (sq (.join [(17,false,cB)] 262016 r0 (cn (s0 lf) lf)) (sq (rg [0,1,2,4,3,5,6,7,8,9,10]) (sq (rg [0,1,2,3,5,6,4,7,8,9,10,11]) (s0 lf)))))
def F209 (p0:Option Addr) (p1:Due) (h:Hp) (Q:Bool->Hp->Prop):Prop:=ZY (λ(t1:Bool) h1=>ZB t1 (Q false h1) (ZR p0 λa1=>ZC cSl (a1.add 0) h1 λ(s1:Sl)=>ZA TP 283 [.slice s1.a s1.len s1.cap,.agg ⟨[.int .i64 p1.Tick,.int .i64 p1.Kind,.int .i64 p1.ID]⟩,.func (Fn.func 284) ⟨[]⟩ ⟨[]⟩] (ZW [cI IntKind.i64,cB]) h1 λ(z1:Int×Bool) h2=>ZR p0 λa2=>ZC cSl (a2.add 0) h2 λ(s2:Sl)=>ZM (Obj.cells ⟨[.int .i64 p1.Tick,.int .i64 p1.Kind,.int .i64 p1.ID]⟩ 197) h2 λk1 h3=>ZA TP 285 [.slice s2.a s2.len s2.cap,.int .i64 z1.fst,.slice (some ⟨k1,0,none⟩) 1 1] cSl h3 λ(s3:Sl) h4=>ZR p0 λa3=>ZV cSl (a3.add 0) s3 h4 λh5=>Q true h5)) λ(J1:Bool->Hp->Prop)=>ZB p0.isNone (J1 true h) (ZA TP 149 [.pointer p0,.int .i64 p1.Kind,.int .i64 p1.ID] (cI IntKind.i64) h λ(n1:Int) h6=>J1 (decide (n1>=0)) h6)
theorem c209 {p0 p1 h Q} (hk:F209 p0 p1 h Q):ZA TP 209 [.pointer p0,ZBk.enc p1] (cB) h Q:=cc a209 n209 hk
def a210:Ann:=mkA 16 [] 0 (bc [(4,ZS)])
def n210:An:=(s0 (s0 (sq (s0 (cn (s0 lf) lf)) (s0 lf))))
def F210 (p0:Option Addr) (p1:Int) (h:Hp) (Q:Za×Bool->Hp->Prop):Prop:=ZA TP 141 [.pointer p0,.int .i64 p1] (ZW [cI IntKind.i64,cB]) h λ(z1:Int×Bool) h1=>ZB (!z1.snd) (Q ({ID:=0,Ask:=0,Dealer:=0,Price:=0,Expires:=0,Live:=false:Za},false) h1) (ZR p0 λa1=>ZC cSl (a1.add 0) h1 λ(s1:Sl)=>Zl s1.a s1.len z1.fst λa2=>ZC ZS (a2.add (z1.fst.toNat*6)) h1 λ(x1:Za)=>Q (x1,true) h1)
theorem c210 {p0 p1 h Q} (hk:F210 p0 p1 h Q):ZA TP 210 [.pointer p0,.int .i64 p1] (ZW [ZS,cB]) h Q:=cc a210 n210 hk
def a214:Ann:=mkA 0 [] 0 (bc [])
def n214:An:=(s0 (s0 lf))
def F214 (p0:Option Addr) (p1:Int) (p2:Int) (h:Hp) (Q:Sl->Hp->Prop):Prop:=ZM (Obj.cells ⟨[.int .i64 p1]⟩ 2) h λk1 h1=>ZM (Obj.cells ⟨[.int .i64 p2]⟩ 2) h1 λk2 h2=>ZA TP 147 [.pointer p0,.func (Fn.func 289) ⟨[]⟩ ⟨[.pointer (some ⟨k1,0,none⟩),.pointer (some ⟨k2,0,none⟩)]⟩] cSl h2 λ(s1:Sl) h3=>Q s1 h3
theorem c214 {p0 p1 p2 h Q} (hk:F214 p0 p1 p2 h Q):ZA TP 214 [.pointer p0,.int .i64 p1,.int .i64 p2] (cSl) h Q:=cc a214 n214 hk
def a221:Ann:=mkA 8 [(9,3)] 0 (bc [(3,ZAb)])
def n221:An:=(s0 (s0 (sq (.join [(23,false,cB)] 16760832 r0 (cn (s0 lf) lf)) (sq (s0 (cn (s0 lf) lf)) (sq (rg [0,1,2,3,5,6,4,7,8,9,10,11]) (s0 lf))))))
def F221 (p0:Option Addr) (p1:Ask) (h:Hp) (Q:Int->Hp->Prop):Prop:=ZA TP 140 [.pointer p0,.int .i64 p1.ID] (ZW [cI IntKind.i64,cB]) h λ(z1:Int×Bool) h1=>ZY (λ(t1:Bool) h2=>ZB t1 (Q 1 h2) (ZA TP 296 [.pointer p0] (cI IntKind.i64) h2 λ(n1:Int) h3=>ZB (decide (n1>=32)) (Q 3 h3) (ZR p0 λa1=>ZC cSl (a1.add 0) h3 λ(s1:Sl)=>ZM (Obj.cells ⟨[.int .i64 p1.ID,.int .i64 p1.Client,.int .i64 p1.Bond,.int .i64 p1.Side,.int .i64 p1.Qty,.int .u64 p1.Dealers,.int .i64 p1.Ends,.int .i64 p1.Until,.int .i64 p1.State,.int .i64 p1.Hit]⟩ 50) h3 λk1 h4=>ZA TP 297 [.slice s1.a s1.len s1.cap,.int .i64 z1.fst,.slice (some ⟨k1,0,none⟩) 1 1] cSl h4 λ(s2:Sl) h5=>ZR p0 λa2=>ZV cSl (a2.add 0) s2 h5 λh6=>Q 0 h6))) λ(J1:Bool->Hp->Prop)=>ZB p0.isNone (J1 true h1) (ZB z1.snd (J1 true h1) (ZA TP 295 [.agg ⟨[.int .i64 p1.ID,.int .i64 p1.Client,.int .i64 p1.Bond,.int .i64 p1.Side,.int .i64 p1.Qty,.int .u64 p1.Dealers,.int .i64 p1.Ends,.int .i64 p1.Until,.int .i64 p1.State,.int .i64 p1.Hit]⟩] cB h1 λ(t2:Bool) h7=>J1 (!t2) h7))
theorem c221 {p0 p1 h Q} (hk:F221 p0 p1 h Q):ZA TP 221 [.pointer p0,ZAb.enc p1] (cI .i64) h Q:=cc a221 n221 hk
def a226:Ann:=mkA 0 [] 0 (bc [])
def n226:An:=(s0 (s0 (sq (s0 (cn (s0 lf) lf)) (s0 lf))))
def F226 (p0:Option Addr) (p1:Int) (h:Hp) (Q:Option Addr×Int->Hp->Prop):Prop:=ZA TP 140 [.pointer p0,.int .i64 p1] (ZW [cI IntKind.i64,cB]) h λ(z1:Int×Bool) h1=>ZB (!z1.snd) (Q (none,4) h1) (ZR p0 λa1=>ZC cSl (a1.add 0) h1 λ(s1:Sl)=>Zl s1.a s1.len z1.fst λa2=>Q (some (a2.add (z1.fst.toNat*10)),0) h1)
theorem c226 {p0 p1 h Q} (hk:F226 p0 p1 h Q):ZA TP 226 [.pointer p0,.int .i64 p1] (ZW [cP,cI .i64]) h Q:=cc a226 n226 hk
def a227:Ann:=mkA 128 [(17,7)] 0 (bc [(7,ZS)])
def n227:An:=(s0 (s0 (sq (s0 (bk (.loop [(5,false,cSl),(12,false,cI .i64)] 4190368 (s0 (sq (cn lf lf) (sq (bk (s0 r0)) r0)))))) (sq (s0 (cn r0 lf)) (s0 lf)))))
def F227 (p0:Option Addr) (p1:Int) (h:Hp) (Q:Sl->Hp->Prop):Prop:=ZM (Obj.cells ⟨[.int .i64 p1]⟩ 2) h λk1 h1=>ZA TP 147 [.pointer p0,.func (Fn.func 298) ⟨[]⟩ ⟨[.pointer (some ⟨k1,0,none⟩)]⟩] cSl h1 λ(s1:Sl) h2=>Zj ({a:=none,len:=0,cap:=0:Sl},0) h2 λ(J1:Sl×Int->Hp->Prop) (z1:Sl×Int) h3=>ZB (decide (z1.snd<(↑s1.len:Int))) (Zl s1.a s1.len z1.snd λa1=>ZC ZS (a1.add (z1.snd.toNat*6)) h3 λ(x1:Za)=>ZM (Obj.cells ⟨[.int .i64 x1.ID]⟩ 2) h3 λk2 h4=>ZX (cI IntKind.i64) 2 8 z1.fst.a z1.fst.len z1.fst.cap (some ⟨k2,0,none⟩) 1 h4 λ(p1:Option Addr) (k3 k4:Nat) h5=>J1 (⟨p1,k3,k4⟩,IntKind.i64.wrap (z1.snd+1)) h5) (ZB (!p0.isNone) (ZR p0 λa2=>ZC cSl (a2.add 0) h3 λ(s2:Sl)=>ZA TP 299 [.slice s2.a s2.len s2.cap,.func (Fn.func 300) ⟨[]⟩ ⟨[.pointer (some ⟨k1,0,none⟩)]⟩] cSl h3 λ(s3:Sl) h6=>ZR p0 λa3=>ZV cSl (a3.add 0) s3 h6 λh7=>Q z1.fst h7) (Q z1.fst h3))
theorem c227 {p0 p1 h Q} (hk:F227 p0 p1 h Q):ZA TP 227 [.pointer p0,.int .i64 p1] (cSl) h Q:=cc a227 n227 hk
def a281:Ann:=mkA 128 [(19,7)] 0 (bc [(7,ZS)])
def n281:An:=(s0 (s0 (sq (bk (s0 (cn (s0 lf) (s0 (cn (s0 lf) (s0 (cn (s0 lf) lf))))))) (s0 lf))))
def F281 (p0:Option Addr) (p1:Int) (p2:Int) (h:Hp) (Q:Int->Hp->Prop):Prop:=ZA TP 210 [.pointer p0,.int .i64 p1] (ZW [ZS,cB]) h λ(z1:Za×Bool) h1=>ZB (!z1.snd) (Q 4 h1) (ZB (z1.fst.Dealer != p2) (Q 5 h1) (ZA TP 82 [.pointer p0,.int .i64 p1] cB h1 λ(t1:Bool) h2=>ZB (!t1) (Q 12 h2) (Q 0 h2)))
theorem c281 {p0 p1 p2 h Q} (hk:F281 p0 p1 p2 h Q):ZA TP 281 [.pointer p0,.int .i64 p1,.int .i64 p2] (cI .i64) h Q:=cc a281 n281 hk
def a287:Ann:=mkA 0 [] 0 (bc [])
def n287:An:=(s0 (s0 (sq (bk (s0 (cn (s0 lf) (s0 (cn (s0 lf) (.join [(27,false,cB)] 17045651456 r0 (cn (s0 lf) lf))))))) (s0 (s0 lf)))))
def F287 (p0:Option Addr) (p1:Int) (p2:Int) (p3:Int) (h:Hp) (Q:Int->Hp->Prop):Prop:=ZA TP 226 [.pointer p0,.int .i64 p1] (ZW [cP,cI IntKind.i64]) h λ(z1:Option Addr×Int) h1=>ZB (z1.snd != 0) (Q z1.snd h1) (ZR z1.fst λa1=>ZC (cI IntKind.i64) ⟨a1.block,a1.off+8,none⟩ h1 λ(n1:Int)=>ZB (n1 != 1) (Q 11 h1) (ZY (λ(t1:Bool) h2=>ZB t1 (Q 1 h2) (ZR z1.fst λa2=>ZV (cI IntKind.i64) ⟨a2.block,a2.off+8,none⟩ 2 h2 λh3=>ZR z1.fst λa3=>ZV (cI IntKind.i64) ⟨a3.block,a3.off+9,none⟩ p2 h3 λh4=>ZR z1.fst λa4=>ZV (cI IntKind.i64) ⟨a4.block,a4.off+7,none⟩ p3 h4 λh5=>Q 0 h5)) λ(J1:Bool->Hp->Prop)=>ZB (decide (p2<1)) (J1 true h1) (J1 (decide (p3<1)) h1)))
theorem c287 {p0 p1 p2 p3 h Q} (hk:F287 p0 p1 p2 p3 h Q):ZA TP 287 [.pointer p0,.int .i64 p1,.int .i64 p2,.int .i64 p3] (cI .i64) h Q:=cc a287 n287 hk
def a295:Ann:=mkA 2 [(3,1),(7,1),(12,1),(17,1),(22,1),(27,1),(32,1),(37,1),(42,1)] 0 (bc [(1,ZAb)])
def n295:An:=(s0 (s0 lf))
def F295 (p0:Ask) (h:Hp) (Q:Bool->Hp->Prop):Prop:=ZB (decide (p0.ID>=1)) (ZB (decide (p0.Qty>=1)) (ZB (decide (p0.Client>=0)) (ZB (decide (p0.Bond>=0)) (ZA TP 218 [.int .i64 p0.Side] cB h λ(t1:Bool) h1=>ZB t1 (ZB (p0.Dealers != 0) (ZB (p0.State==1) (ZB (p0.Hit==0) (Q (p0.Until==0) h1) (Q false h1)) (Q false h1)) (Q false h1)) (Q false h1)) (Q false h)) (Q false h)) (Q false h)) (Q false h)
theorem c295 {p0 h Q} (hk:F295 p0 h Q):ZA TP 295 [ZAb.enc p0] (cB) h Q:=cc a295 n295 hk
def a296:Ann:=mkA 32 [(13,5),(17,5)] 0 (bc [(5,ZAb)])
def n296:An:=(s0 (s0 (sq (s0 (bk (.loop [(3,false,cI .i64),(9,false,cI .i64)] 16776744 (s0 (sq (cn lf lf) (sq (.blockJ [(3,false,cI .i64)] 8386600 (s0 (.join [(20,false,cB)] 2088960 r0 (cn r0 lf)))) r0)))))) (s0 lf))))
def F296 (p0:Option Addr) (h:Hp) (Q:Int->Hp->Prop):Prop:=ZA TP 45 [.pointer p0] cSl h λ(s1:Sl) h1=>Zj (0,0) h1 λ(J1:Int×Int->Hp->Prop) (z1:Int×Int) h2=>ZB (decide (z1.snd<(↑s1.len:Int))) (ZY (λ(n1:Int) h3=>J1 (n1,IntKind.i64.wrap (z1.snd+1)) h3) λ(J2:Int->Hp->Prop)=>Zl s1.a s1.len z1.snd λa1=>ZC ZAb (a1.add (z1.snd.toNat*10)) h2 λ(x1:Ask)=>ZY (λ(t1:Bool) h4=>ZB t1 (J2 (IntKind.i64.wrap (z1.fst+1)) h4) (J2 z1.fst h4)) λ(J3:Bool->Hp->Prop)=>ZB (x1.State==1) (J3 true h2) (J3 (x1.State==2) h2)) (Q z1.fst h2)
theorem c296 {p0 h Q} (hk:F296 p0 h Q):ZA TP 296 [.pointer p0] (cI .i64) h Q:=cc a296 n296 hk
def a130:Ann:=mkA 0 [] 0 (bc [])
def n130:An:=(s0 (s0 (sq (s0 (bk (.join [(12,false,cB)] 61440 (s0 (cn lf (s0 (cn lf r0)))) (cn (s0 lf) (.join [(22,false,cB)] 130023424 (s0 (cn lf (s0 (cn lf (s0 (cn lf r0)))))) (cn (s0 lf) (.join [(29,false,cB)] 16642998272 (s0 (cn lf (s0 (cn lf (s0 (cn lf r0)))))) (cn (s0 lf) (s0 (cn (s0 lf) lf)))))))))) (s0 lf))))
def F130 (p0:Option Addr) (p1:Int) (p2:Int) (h:Hp) (Q:Bool->Hp->Prop):Prop:=ZA TP 199 [.pointer p0,.int .i64 p1] (cI IntKind.i64) h λ(n1:Int) h1=>ZY (λ(t1:Bool) h2=>ZB t1 (ZB (n1==1) (Q true h2) (Q (n1==2) h2)) (ZY (λ(t2:Bool) h3=>ZB t2 (Q (n1==1) h3) (ZY (λ(t3:Bool) h4=>ZB t3 (Q (n1==2) h4) (ZB (p2==17) (Q (n1==3) h4) (Q false h4))) λ(J1:Bool->Hp->Prop)=>ZB (p2==10) (J1 (p2==10) h3) (ZB (p2==11) (J1 (p2==11) h3) (ZB (p2==14) (J1 (p2==14) h3) (J1 (p2==15) h3))))) λ(J2:Bool->Hp->Prop)=>ZB (p2==9) (J2 (p2==9) h2) (ZB (p2==12) (J2 (p2==12) h2) (ZB (p2==13) (J2 (p2==13) h2) (J2 (p2==16) h2))))) λ(J3:Bool->Hp->Prop)=>ZB (p2==6) (J3 (p2==6) h1) (ZB (p2==7) (J3 (p2==7) h1) (J3 (p2==8) h1))
theorem c130 {p0 p1 p2 h Q} (hk:F130 p0 p1 p2 h Q):ZA TP 130 [.pointer p0,.int .i64 p1,.int .i64 p2] (cB) h Q:=cc a130 n130 hk
def a199:Ann:=mkA 0 [] 0 (bc [])
def n199:An:=(s0 (sq (.join [(19,false,cB)] 1048544 r0 (cn (s0 lf) lf)) (s0 lf)))
def F199 (p0:Option Addr) (p1:Int) (h:Hp) (Q:Int->Hp->Prop):Prop:=ZY (λ(t1:Bool) h1=>ZB t1 (Q 0 h1) (ZR p0 λa1=>ZC cSl (a1.add 0) h1 λ(s1:Sl)=>Zl s1.a s1.len p1 λa2=>ZC (cI IntKind.i64) ((a2.add (p1.toNat*3)).add 0) h1 λ(n1:Int)=>Q n1 h1)) λ(J1:Bool->Hp->Prop)=>ZB p0.isNone (J1 true h) (ZB (decide (p1<0)) (J1 true h) (ZR p0 λa3=>ZC cSl (a3.add 0) h λ(s2:Sl)=>J1 (decide (p1>=(↑s2.len:Int))) h))
theorem c199 {p0 p1 h Q} (hk:F199 p0 p1 h Q):ZA TP 199 [.pointer p0,.int .i64 p1] (cI .i64) h Q:=cc a199 n199 hk
def a33:Ann:=mkA 2 [(6,1),(9,1)] 0 (bc [(1,ZAq)])
def n33:An:=(s0 (sq (s0 (cn (s0 lf) lf)) (sq (rg [0,1,3,4,5,2,6,7,8,9]) lf)))
def F33 (p0:ZEl) (h:Hp) (Q:Option Addr->Hp->Prop):Prop:=ZA TP 73 [.agg ⟨[.slice p0.Bonds.a p0.Bonds.len p0.Bonds.cap,.slice p0.Parties.a p0.Parties.len p0.Parties.cap,.int .i64 p0.Look,.int .i64 p0.Beat]⟩] cB h λ(t1:Bool) h1=>ZB (!t1) (Q none h1) (ZA TP 35 [.slice p0.Parties.a p0.Parties.len p0.Parties.cap] cSl h1 λ(s1:Sl) h2=>ZEG (↑p0.Parties.len:Int) (↑p0.Parties.len:Int) 8 (ZM (Obj.cells {toList:=Z3 (↑p0.Parties.len:Int).toNat [.int .i64 0]:Array Value} 2) h2 λk1 h3=>ZM (Obj.cells ⟨[.slice s1.a s1.len s1.cap,.slice (some ⟨k1,0,none⟩) (↑p0.Parties.len:Int).toNat (↑p0.Parties.len:Int).toNat]⟩ 170) h3 λk2 h4=>Q (some ⟨k2,0,none⟩) h4))
theorem c33 {p0 h Q} (hk:F33 p0 h Q):ZA TP 33 [ZAq.enc p0] (cP) h Q:=cc a33 n33 hk
def a73:Ann:=mkA 2 [(6,1),(12,1),(18,1),(22,1),(28,1),(35,1),(40,1)] 0 (bc [(1,ZAq)])
def n73:An:=(s0 (sq (.join [(17,false,cB)] 262080 r0 (cn (s0 lf) lf)) (s0 (s0 (s0 (s0 lf))))))
def F73 (p0:ZEl) (h:Hp) (Q:Bool->Hp->Prop):Prop:=ZY (λ(t1:Bool) h1=>ZB t1 (Q false h1) (ZA TP 120 [.slice p0.Parties.a p0.Parties.len p0.Parties.cap] (cI IntKind.u64) h1 λ(n1:Int) h2=>ZM (Obj.cells ⟨[.int .u64 0]⟩ 48) h2 λk1 h3=>ZV (cI IntKind.u64) ⟨k1,0,none⟩ n1 h3 λh4=>ZA TP 123 [.slice p0.Bonds.a p0.Bonds.len p0.Bonds.cap,.func (Fn.func 118) ⟨[]⟩ ⟨[]⟩] cB h4 λ(t2:Bool) h5=>ZB (!t2) (ZA TP 124 [.slice p0.Parties.a p0.Parties.len p0.Parties.cap,.func (Fn.func 121) ⟨[]⟩ ⟨[.pointer (some ⟨k1,0,none⟩)]⟩] cB h5 λ(t3:Bool) h6=>ZB (!t3) (ZA TP 117 [.int .i64 p0.Look,.int .i64 1,.int .i64 1000] cB h6 λ(t4:Bool) h7=>ZB t4 (ZA TP 117 [.int .i64 p0.Beat,.int .i64 1,.int .i64 1000] cB h7 λ(t5:Bool) h8=>Q t5 h8) (Q false h7)) (Q false h6)) (Q false h5))) λ(J1:Bool->Hp->Prop)=>ZA TP 117 [.int .i64 (↑p0.Bonds.len:Int),.int .i64 1,.int .i64 4] cB h λ(t6:Bool) h9=>ZB (!t6) (J1 true h9) (ZA TP 117 [.int .i64 (↑p0.Parties.len:Int),.int .i64 1,.int .i64 8] cB h9 λ(t7:Bool) h10=>J1 (!t7) h10)
theorem c73 {p0 h Q} (hk:F73 p0 h Q):ZA TP 73 [ZAq.enc p0] (cB) h Q:=cc a73 n73 hk
def a216:Ann:=mkA 0 [] 0 (bc [])
def n216:An:=(s0 (s0 (sq (s0 (cn r0 lf)) (s0 lf))))
def F216 (p0:Option Addr) (p1:Int) (p2:Int) (p3:Int) (h:Hp) (Q:Int->Hp->Prop):Prop:=ZA TP 291 [.pointer p0,.int .i64 p1,.int .i64 p2,.int .i64 p3] (ZW [cI IntKind.i64,cI IntKind.i64]) h λ(z1:Int×Int) h1=>ZB (z1.snd==0) (ZR p0 λa1=>ZC cSl ⟨a1.block,a1.off+1,none⟩ h1 λ(s1:Sl)=>Zl s1.a s1.len p1 λa2=>ZV (cI IntKind.i64) (a2.add (p1.toNat*1)) z1.fst h1 λh2=>Q z1.snd h2) (Q z1.snd h1)
theorem c216 {p0 p1 p2 p3 h Q} (hk:F216 p0 p1 p2 p3 h Q):ZA TP 216 [.pointer p0,.int .i64 p1,.int .i64 p2,.int .i64 p3] (cI .i64) h Q:=cc a216 n216 hk
def a220:Ann:=mkA 0 [] 0 (bc [])
def n220:An:=(s0 (sq (bk (s0 (cn (s0 lf) (s0 (cn (s0 lf) (.join [(15,false,cB)] 2147450880 r0 (cn (s0 lf) lf))))))) (s0 lf)))
def F220 (p0:Option Addr) (p1:Int) (p2:Int) (h:Hp) (Q:Int->Hp->Prop):Prop:=ZB p0.isNone (Q 1 h) (ZA TP 199 [.pointer p0,.int .i64 p1] (cI IntKind.i64) h λ(n1:Int) h1=>ZB (n1 != 1) (Q 5 h1) (ZY (λ(t1:Bool) h2=>ZB t1 (Q 1 h2) (Q 0 h2)) λ(J1:Bool->Hp->Prop)=>ZB (p2==0) (J1 true h1) (ZR p0 λa1=>ZC cSl (a1.add 0) h1 λ(s1:Sl)=>Zl s1.a s1.len p1 λa2=>ZC (cI IntKind.u64) ⟨(a2.add (p1.toNat*3)).block,(a2.add (p1.toNat*3)).off+1,none⟩ h1 λ(n2:Int)=>J1 (ZGP IntKind.u64 p2 n2 != 0) h1)))
theorem c220 {p0 p1 p2 h Q} (hk:F220 p0 p1 p2 h Q):ZA TP 220 [.pointer p0,.int .i64 p1,.int .u64 p2] (cI .i64) h Q:=cc a220 n220 hk
def a286:Ann:=mkA 0 [] 0 (bc [])
def n286:An:=(s0 (s0 (s0 lf)))
def F286 (p0:Option Addr) (p1:Int) (p2:Int) (p3:Int) (h:Hp) (Q:Int->Hp->Prop):Prop:=ZA TP 291 [.pointer p0,.int .i64 p1,.int .i64 p2,.int .i64 p3] (ZW [cI IntKind.i64,cI IntKind.i64]) h λ(z1:Int×Int) h1=>Q z1.snd h1
theorem c286 {p0 p1 p2 p3 h Q} (hk:F286 p0 p1 p2 p3 h Q):ZA TP 286 [.pointer p0,.int .i64 p1,.int .i64 p2,.int .i64 p3] (cI .i64) h Q:=cc a286 n286 hk
def a291:Ann:=mkA 1024 [] 0 (bc [(10,ZAl)])
def n291:An:=(s0 (sq (bk (s0 (cn (s0 lf) (s0 (cn (s0 lf) (.join [(22,false,cB)] 532676608 r0 (cn (s0 lf) lf))))))) (s0 (s0 (sq (s0 (cn (s0 lf) lf)) (s0 (sq (s0 (cn (s0 lf) lf)) (sq (s0 (cn (s0 lf) lf)) (s0 lf)))))))))
def F291 (p0:Option Addr) (p1:Int) (p2:Int) (p3:Int) (h:Hp) (Q:Int×Int->Hp->Prop):Prop:=ZB p0.isNone (Q (0,1) h) (ZA TP 199 [.pointer p0,.int .i64 p1] (cI IntKind.i64) h λ(n1:Int) h1=>ZB (n1 != 2) (Q (0,5) h1) (ZY (λ(t1:Bool) h2=>ZB t1 (Q (0,1) h2) (ZA TP 332 [.int .i64 p2,.int .i64 p3] (ZW [ZAl,cB]) h2 λ(z1:ZFU×Bool) h3=>ZA TP 334 [.agg ⟨[.int .u64 z1.fst.Hi,.int .u64 z1.fst.Lo]⟩] (ZW [cI IntKind.i64,cB]) h3 λ(z2:Int×Bool) h4=>ZB (!z2.snd) (Q (0,15) h4) (ZR p0 λa1=>ZC cSl ⟨a1.block,a1.off+1,none⟩ h4 λ(s1:Sl)=>Zl s1.a s1.len p1 λa2=>ZC (cI IntKind.i64) (a2.add (p1.toNat*1)) h4 λ(n2:Int)=>ZA TP 335 [.int .i64 n2,.int .i64 z2.fst] (ZW [cI IntKind.i64,cB]) h4 λ(z3:Int×Bool) h5=>ZB (!z3.snd) (Q (0,15) h5) (ZR p0 λa3=>ZC cSl (a3.add 0) h5 λ(s2:Sl)=>Zl s2.a s2.len p1 λa4=>ZC (cI IntKind.i64) ⟨(a4.add (p1.toNat*3)).block,(a4.add (p1.toNat*3)).off+2,none⟩ h5 λ(n3:Int)=>ZB (decide (z3.fst>n3)) (Q (0,14) h5) (Q (z3.fst,0) h5))))) λ(J1:Bool->Hp->Prop)=>ZB (decide (p2<1)) (J1 true h1) (J1 (decide (p3<1)) h1)))
theorem c291 {p0 p1 p2 p3 h Q} (hk:F291 p0 p1 p2 p3 h Q):ZA TP 291 [.pointer p0,.int .i64 p1,.int .i64 p2,.int .i64 p3] (ZW [cI .i64,cI .i64]) h Q:=cc a291 n291 hk
def a336:Ann:=mkA 0 [] 0 (bc [])
def n336:An:=(s0 (s0 lf))
def F336 (p0:Option Addr) (p1:Int) (p2:Int) (h:Hp) (Q:Bool->Hp->Prop):Prop:=ZB (!p0.isNone) (ZB (decide (p1>=0)) (ZR p0 λa1=>ZC cSl ⟨a1.block,a1.off+1,none⟩ h λ(s1:Sl)=>ZB (decide (p1<(↑s1.len:Int))) (ZB (decide (p2>=0)) (ZR p0 λa2=>ZC cSl (a2.add 0) h λ(s2:Sl)=>Zl s2.a s2.len p1 λa3=>ZC cSl (a3.add (p1.toNat*1)) h λ(s3:Sl)=>Q (decide (p2<(↑s3.len:Int))) h) (Q false h)) (Q false h)) (Q false h)) (Q false h)
theorem c336 {p0 p1 p2 h Q} (hk:F336 p0 p1 p2 h Q):ZA TP 336 [.pointer p0,.int .i64 p1,.int .i64 p2] (cB) h Q:=cc a336 n336 hk
def a292:Ann:=mkA 40 [(18,3),(20,3),(26,3),(28,3),(34,3),(36,3),(41,3),(46,3),(51,3),(53,3),(68,3),(72,3),(76,3),(86,3),(90,3),(94,3),(104,3),(117,3),(147,3),(151,3),(157,3),(161,3),(171,3),(177,3)] 0 (bc [(3,Z4),(5,ZAl)])
def n292:An:=(s0 (sq (.join [(49,false,cB)] 1125899906711552 r0 (cn (s0 lf) lf)) (s0 (s0 (sq (rg [0,1,2,4,5,8,9,12,13,3,6,7,10,11,14,15,16,17,18,19]) (sq (rg [0,1,2,4,5,8,9,12,13,3,6,7,10,11,14,15,16,17,18,19]) (sq (rg [0,1,2,4,5,8,3,6,7,9,10,11,12,13,14]) (sq (rg [0,1,2,4,5,8,3,6,7,9,10,11,12,13,14]) (sq (.join [(142,false,cB)] 11150330063969446453459926214498251781963776 r0 (cn (s0 lf) lf)) (sq (rg [0,1,2,4,5,8,9,10,11,12,14,15,18,19,20,21,3,6,7,13,16,17,22,23,24,25]) (sq (rg [0,1,2,4,5,6,7,8,10,11,12,13,3,9,14,15,16,17]) (s0 lf))))))))))))
def F292 (p0:Option Addr) (p1:ZAr) (h:Hp) (Q:Int->Hp->Prop):Prop:=ZY (λ(t1:Bool) h1=>ZB t1 (Q 1 h1) (ZA TP 332 [.int .i64 p1.Price,.int .i64 p1.Qty] (ZW [ZAl,cB]) h1 λ(z1:ZFU×Bool) h2=>ZA TP 334 [.agg ⟨[.int .u64 z1.fst.Hi,.int .u64 z1.fst.Lo]⟩] (ZW [cI IntKind.i64,cB]) h2 λ(z2:Int×Bool) h3=>ZR p0 λa1=>ZC cSl (a1.add 0) h3 λ(s1:Sl)=>Zl s1.a s1.len p1.Buyer λa2=>ZC cSl (a2.add (p1.Buyer.toNat*1)) h3 λ(s2:Sl)=>Zl s2.a s2.len p1.Bond λa3=>ZC (cI IntKind.i64) (a3.add (p1.Bond.toNat*1)) h3 λ(n1:Int)=>ZA TP 335 [.int .i64 n1,.int .i64 p1.Qty] (ZW [cI IntKind.i64,cB]) h3 λ(z3:Int×Bool) h4=>ZR p0 λa4=>ZC cSl (a4.add 0) h4 λ(s3:Sl)=>Zl s3.a s3.len p1.Seller λa5=>ZC cSl (a5.add (p1.Seller.toNat*1)) h4 λ(s4:Sl)=>Zl s4.a s4.len p1.Bond λa6=>ZC (cI IntKind.i64) (a6.add (p1.Bond.toNat*1)) h4 λ(n2:Int)=>ZA TP 337 [.int .i64 n2,.int .i64 p1.Qty] (ZW [cI IntKind.i64,cB]) h4 λ(z4:Int×Bool) h5=>ZR p0 λa7=>ZC cSl ⟨a7.block,a7.off+1,none⟩ h5 λ(s5:Sl)=>Zl s5.a s5.len p1.Buyer λa8=>ZC (cI IntKind.i64) (a8.add (p1.Buyer.toNat*1)) h5 λ(n3:Int)=>ZA TP 337 [.int .i64 n3,.int .i64 z2.fst] (ZW [cI IntKind.i64,cB]) h5 λ(z5:Int×Bool) h6=>ZR p0 λa9=>ZC cSl ⟨a9.block,a9.off+1,none⟩ h6 λ(s6:Sl)=>Zl s6.a s6.len p1.Seller λa10=>ZC (cI IntKind.i64) (a10.add (p1.Seller.toNat*1)) h6 λ(n4:Int)=>ZA TP 335 [.int .i64 n4,.int .i64 z2.fst] (ZW [cI IntKind.i64,cB]) h6 λ(z6:Int×Bool) h7=>ZY (λ(t2:Bool) h8=>ZB t2 (Q 15 h8) (ZR p0 λa11=>ZR p0 λa12=>ZC cSl (a11.add 0) h8 λ(s7:Sl)=>Zl s7.a s7.len p1.Buyer λa13=>ZC cSl (a13.add (p1.Buyer.toNat*1)) h8 λ(s8:Sl)=>ZC cSl (a12.add 0) h8 λ(s9:Sl)=>Zl s9.a s9.len p1.Seller λa14=>ZC cSl (a14.add (p1.Seller.toNat*1)) h8 λ(s10:Sl)=>Zl s8.a s8.len p1.Bond λa15=>ZV (cI IntKind.i64) (a15.add (p1.Bond.toNat*1)) z3.fst h8 λh9=>Zl s10.a s10.len p1.Bond λa16=>ZV (cI IntKind.i64) (a16.add (p1.Bond.toNat*1)) z4.fst h9 λh10=>ZR p0 λa17=>ZR p0 λa18=>ZC cSl ⟨a17.block,a17.off+1,none⟩ h10 λ(s11:Sl)=>ZC cSl ⟨a18.block,a18.off+1,none⟩ h10 λ(s12:Sl)=>Zl s11.a s11.len p1.Buyer λa19=>ZV (cI IntKind.i64) (a19.add (p1.Buyer.toNat*1)) z5.fst h10 λh11=>Zl s12.a s12.len p1.Seller λa20=>ZV (cI IntKind.i64) (a20.add (p1.Seller.toNat*1)) z6.fst h11 λh12=>Q 0 h12)) λ(J1:Bool->Hp->Prop)=>ZB (!z2.snd) (J1 true h7) (ZB (!z3.snd) (J1 true h7) (ZB (!z4.snd) (J1 true h7) (ZB (!z5.snd) (J1 true h7) (J1 (!z6.snd) h7)))))) λ(J2:Bool->Hp->Prop)=>ZA TP 336 [.pointer p0,.int .i64 p1.Buyer,.int .i64 p1.Bond] cB h λ(t3:Bool) h13=>ZB (!t3) (J2 true h13) (ZA TP 336 [.pointer p0,.int .i64 p1.Seller,.int .i64 p1.Bond] cB h13 λ(t4:Bool) h14=>ZB (!t4) (J2 true h14) (ZB (p1.Buyer==p1.Seller) (J2 true h14) (ZB (decide (p1.Price<1)) (J2 true h14) (J2 (decide (p1.Qty<1)) h14))))
theorem c292 {p0 p1 h Q} (hk:F292 p0 p1 h Q):ZA TP 292 [.pointer p0,Z4.enc p1] (cI .i64) h Q:=cc a292 n292 hk
def a338:Ann:=mkA 784 [(10,4),(13,4),(15,4),(17,4)] 0 (bc [(4,Z4),(8,ZCJ),(9,ZD5)])
def n338:An:=(s0 (s0 (s0 lf)))
def F338 (p0:ZAr) (p1:Int) (p2:Int) (p3:Int) (h:Hp) (Q:Out->Hp->Prop):Prop:=Q {To:=p2,Msg_Kind:=28,Msg_F_0:=p0.ID,Msg_F_1:=p1,Msg_F_2:=p0.Bond,Msg_F_3:=p0.Price,Msg_F_4:=p0.Qty,Msg_F_5:=p3:Out} h
theorem c338 {p0 p1 p2 p3 h Q} (hk:F338 p0 p1 p2 p3 h Q):ZA TP 338 [Z4.enc p0,.int .i64 p1,.int .i64 p2,.int .i64 p3] (ZCJ) h Q:=cc a338 n338 hk
def a293:Ann:=mkA 2 [(4,1),(6,1),(10,1),(12,1)] 0 (bc [(1,Z4)])
def n293:An:=(s0 (sq (rg [0,1,2,3,4,6,7,8,9,10,5,11,12,13]) lf))
def F293 (p0:ZAr) (h:Hp) (Q:Sl->Hp->Prop):Prop:=ZA TP 338 [.agg ⟨[.int .i64 p0.ID,.int .i64 p0.Bond,.int .i64 p0.Buyer,.int .i64 p0.Seller,.int .i64 p0.Price,.int .i64 p0.Qty,.int .i64 p0.Ask,.int .i64 p0.Tick]⟩,.int .i64 1,.int .i64 p0.Buyer,.int .i64 p0.Seller] ZCJ h λ(x1:Out) h1=>ZA TP 338 [.agg ⟨[.int .i64 p0.ID,.int .i64 p0.Bond,.int .i64 p0.Buyer,.int .i64 p0.Seller,.int .i64 p0.Price,.int .i64 p0.Qty,.int .i64 p0.Ask,.int .i64 p0.Tick]⟩,.int .i64 2,.int .i64 p0.Seller,.int .i64 p0.Buyer] ZCJ h1 λ(x2:Out) h2=>ZM (Obj.cells ⟨[.int .i64 x1.To,.int .i64 x1.Msg_Kind,.int .i64 x1.Msg_F_0,.int .i64 x1.Msg_F_1,.int .i64 x1.Msg_F_2,.int .i64 x1.Msg_F_3,.int .i64 x1.Msg_F_4,.int .i64 x1.Msg_F_5,.int .i64 x2.To,.int .i64 x2.Msg_Kind,.int .i64 x2.Msg_F_0,.int .i64 x2.Msg_F_1,.int .i64 x2.Msg_F_2,.int .i64 x2.Msg_F_3,.int .i64 x2.Msg_F_4,.int .i64 x2.Msg_F_5]⟩ 78) h2 λk1 h3=>Q ⟨some ⟨k1,0,none⟩,2,2⟩ h3
theorem c293 {p0 h Q} (hk:F293 p0 h Q):ZA TP 293 [Z4.enc p0] (cSl) h Q:=cc a293 n293 hk
def a339:Ann:=mkA 0 [] 0 (bc [])
def n339:An:=(s0 (s0 (sq (s0 (bk (.loop [(5,false,cI .u64),(12,false,cI .i64)] 4190368 (s0 (sq (cn lf lf) (sq (bk (s0 r0)) r0)))))) (s0 lf))))
def F339 (p0:Int) (p1:Sl) (h:Hp) (Q:Int->Hp->Prop):Prop:=Zj (ZPa IntKind.u64 p0 1469598103934665603,0) h λ(J1:Int×Int->Hp->Prop) (z1:Int×Int) h1=>ZB (decide (z1.snd<(↑p1.len:Int))) (Zl p1.a p1.len z1.snd λa1=>ZC (cI IntKind.u8) (a1.add (z1.snd.toNat*1)) h1 λ(n1:Int)=>J1 (IntKind.u64.wrap (ZPa IntKind.u64 z1.fst (IntKind.u64.wrap n1)*1099511628211),IntKind.i64.wrap (z1.snd+1)) h1) ((0:Int)<=29/\Q (ZPa IntKind.u64 z1.fst (ZBT IntKind.u64 z1.fst 29)) h1)
theorem c339 {p0 p1 h Q} (hk:F339 p0 p1 h Q):ZA TP 339 [.int .u64 p0,.slice p1.a p1.len p1.cap] (cI .u64) h Q:=cc a339 n339 hk
def a340:Ann:=mkA 2 [(3,1),(5,1),(7,1),(9,1),(11,1),(13,1),(15,1),(17,1)] 0 (bc [(1,Z4)])
def n340:An:=(s0 (s0 lf))
def F340 (p0:ZAr) (h:Hp) (Q:Sl->Hp->Prop):Prop:=ZM (Obj.cells ⟨[.int .i64 p0.ID,.int .i64 p0.Bond,.int .i64 p0.Buyer,.int .i64 p0.Seller,.int .i64 p0.Price,.int .i64 p0.Qty,.int .i64 p0.Ask,.int .i64 p0.Tick]⟩ 2) h λk1 h1=>ZA TP 315 [.slice (some ⟨k1,0,none⟩) 8 8] cSl h1 λ(s1:Sl) h2=>Q s1 h2
theorem c340 {p0 h Q} (hk:F340 p0 h Q):ZA TP 340 [Z4.enc p0] (cSl) h Q:=cc a340 n340 hk
def a294:Ann:=mkA 24 [(14,3)] 0 (bc [(3,Z4),(4,Z4)])
def n294:An:=(s0 (sq (s0 (cn (s0 lf) lf)) (s0 (sq (rg [0,1,2,3,5,4,6,7,8,9,10]) (sq (.reg [(0,[]),(1,[]),(2,[]),(3,[]),(5,[]),(4,[]),(6,[4]),(7,[]),(8,[]),(9,[]),(10,[])]) (s0 lf))))))
def F294 (p0:Option Addr) (p1:ZAr) (h:Hp) (Q:ZAr->Hp->Prop):Prop:=ZB p0.isNone (Q {ID:=0,Bond:=0,Buyer:=0,Seller:=0,Price:=0,Qty:=0,Ask:=0,Tick:=0:ZAr} h) (ZR p0 λa1=>ZC cSl (a1.add 0) h λ(s1:Sl)=>ZR p0 λa2=>ZC cSl (a2.add 0) h λ(s2:Sl)=>ZM (Obj.cells ⟨[.int .i64 (IntKind.i64.wrap ((↑s1.len:Int)+1)),.int .i64 p1.Bond,.int .i64 p1.Buyer,.int .i64 p1.Seller,.int .i64 p1.Price,.int .i64 p1.Qty,.int .i64 p1.Ask,.int .i64 p1.Tick]⟩ 64) h λk1 h1=>ZX Z4 64 64 s2.a s2.len s2.cap (some ⟨k1,0,none⟩) 1 h1 λ(p1_1:Option Addr) (k2 k3:Nat) h2=>ZR p0 λa3=>ZV cSl (a3.add 0) ⟨p1_1,k2,k3⟩ h2 λh3=>ZR p0 λa4=>ZC (cI IntKind.u64) ⟨a4.block,a4.off+1,none⟩ h3 λ(n1:Int)=>ZA TP 340 [.agg ⟨[.int .i64 (IntKind.i64.wrap ((↑s1.len:Int)+1)),.int .i64 p1.Bond,.int .i64 p1.Buyer,.int .i64 p1.Seller,.int .i64 p1.Price,.int .i64 p1.Qty,.int .i64 p1.Ask,.int .i64 p1.Tick]⟩] cSl h3 λ(s3:Sl) h4=>(h4.rds ⟨a4.block,a4.off+1,none⟩ [.int .u64 n1]/\True)/\ZA TP 339 [.int .u64 n1,.slice s3.a s3.len s3.cap] (cI IntKind.u64) h4 λ(n2:Int) h5=>ZR p0 λa5=>ZV (cI IntKind.u64) ⟨a5.block,a5.off+1,none⟩ n2 h5 λh6=>Q {ID:=IntKind.i64.wrap ((↑s1.len:Int)+1),Bond:=p1.Bond,Buyer:=p1.Buyer,Seller:=p1.Seller,Price:=p1.Price,Qty:=p1.Qty,Ask:=p1.Ask,Tick:=p1.Tick:ZAr} h6)
theorem c294 {p0 p1 h Q} (hk:F294 p0 p1 h Q):ZA TP 294 [.pointer p0,Z4.enc p1] (Z4) h Q:=cc a294 n294 hk
def a41:Ann:=mkA 0 [] 0 (bc [])
def n41:An:=(s0 (s0 lf))
def F41  (h:Hp) (Q:Option Addr->Hp->Prop):Prop:=ZM (Obj.cells ⟨[.slice none 0 0]⟩ 147) h λk1 h1=>Q (some ⟨k1,0,none⟩) h1
theorem c41  {h:Hp} {Q:Option Addr->Hp->Prop} (hk:F41  h Q):ZA TP 41 [] (cP) h Q:=cc a41 n41 hk
end Go.Proofs.YtkmniidiifpdgaaGreat
set_option maxRecDepth 20000
namespace Go.Proofs.YtkmniidiifpdgaaGreat
open Go.Eng
def a8:Ann:=mkA 2 [(9,1),(12,1),(15,1),(16,1),(22,1),(25,1),(32,1)] 0 (bc [(1,ZAq)])
def n8:An:=(s0 (s0 (sq (s0 (cn (s0 lf) lf)) (sq (rg [0,1,3,4,2,6,5,7,8,9]) (sq (rg [0,1,5,6,7,8,9,10,2,3,4,11,12,13,14,15]) (sq (s0 (bk (.loop [(35,false,cI .i64)] 281440616972288 (s0 (sq (cn lf lf) (sq (bk (.reg [(0,[]),(1,[]),(2,[]),(3,[]),(4,[]),(5,[4]),(6,[]),(7,[]),(8,[]),(9,[]),(10,[])])) r0)))))) (s0 lf)))))))
def F8 (p0:ZEl) (h:Hp) (Q:Option Addr->Hp->Prop):Prop:=ZA TP 33 [.agg ⟨[.slice p0.Bonds.a p0.Bonds.len p0.Bonds.cap,.slice p0.Parties.a p0.Parties.len p0.Parties.cap,.int .i64 p0.Look,.int .i64 p0.Beat]⟩] cP h λ(p1:Option Addr) h1=>ZB p1.isNone (Q none h1) (ZA TP 34 [.slice p0.Bonds.a p0.Bonds.len p0.Bonds.cap] cSl h1 λ(s1:Sl) h2=>ZA TP 35 [.slice p0.Parties.a p0.Parties.len p0.Parties.cap] cSl h2 λ(s2:Sl) h3=>ZA TP 36 [] cP h3 λ(p2:Option Addr) h4=>ZA TP 37 [] cP h4 λ(p3:Option Addr) h5=>ZA TP 38 [] cP h5 λ(p4:Option Addr) h6=>ZA TP 39 [.int .i64 (↑s2.len:Int),.int .i64 (↑s1.len:Int)] cP h6 λ(p5:Option Addr) h7=>ZA TP 40 [] cP h7 λ(p6:Option Addr) h8=>ZM (Obj.cells ⟨[.slice s1.a s1.len s1.cap,.slice s2.a s2.len s2.cap,.int .i64 p0.Look,.int .i64 p0.Beat,.int .i64 0,.slice none 0 0,.pointer p1,.pointer p2,.pointer p3,.pointer p4,.pointer p5,.pointer p6,.int .i64 0,.int .i64 0,.int .i64 0,.int .i64 0]⟩ 121) h8 λk1 h9=>Zj 0 h9 λ(J1:Int->Hp->Prop) (n1:Int) h10=>ZB (decide (n1<(↑s1.len:Int))) (ZC cSl ⟨k1,0+5,none⟩ h10 λ(s3:Sl)=>ZA TP 41 [] cP h10 λ(p7:Option Addr) h11=>(h11.rds ⟨k1,0+5,none⟩ [.slice s3.a s3.len s3.cap]/\True)/\ZM (Obj.cells ⟨[.pointer p7]⟩ 69) h11 λk2 h12=>ZX cP 69 8 s3.a s3.len s3.cap (some ⟨k2,0,none⟩) 1 h12 λ(p8:Option Addr) (k3 k4:Nat) h13=>ZV cSl ⟨k1,0+5,none⟩ ⟨p8,k3,k4⟩ h13 λh14=>J1 (IntKind.i64.wrap (n1+1)) h14) (Q (some ⟨k1,0,none⟩) h10))
theorem c8 {p0 h Q} (hk:F8 p0 h Q):ZA TP 8 [ZAq.enc p0] (cP) h Q:=cc a8 n8 hk
def a11:Ann:=mkA 0 [] 0 (bc [])
def n11:An:=(s0 (sq (s0 (cn (s0 lf) lf)) (s0 lf)))
def F11 (p0:Option Addr) (h:Hp) (Q:Sl->Hp->Prop):Prop:=ZB p0.isNone (Q ⟨none,0,0⟩ h) (ZR p0 λa1=>ZC cP ⟨a1.block,a1.off+11,none⟩ h λ(p1:Option Addr)=>ZA TP 44 [.pointer p1] cSl h λ(s1:Sl) h1=>Q s1 h1)
theorem c11 {p0 h Q} (hk:F11 p0 h Q):ZA TP 11 [.pointer p0] (cSl) h Q:=cc a11 n11 hk
def a19:Ann:=mkA 0 [] 0 (bc [])
def n19:An:=(s0 (sq (.join [(12,false,cB)] 8160 r0 (cn (s0 lf) lf)) (s0 lf)))
def F19 (p0:Option Addr) (p1:Int) (h:Hp) (Q:Option Addr->Hp->Prop):Prop:=ZY (λ(t1:Bool) h1=>ZB t1 (Q none h1) (ZR p0 λa1=>ZC cSl ⟨a1.block,a1.off+5,none⟩ h1 λ(s1:Sl)=>Zl s1.a s1.len p1 λa2=>ZC cP (a2.add (p1.toNat*1)) h1 λ(p1:Option Addr)=>Q p1 h1)) λ(J1:Bool->Hp->Prop)=>ZB p0.isNone (J1 true h) (ZA TP 56 [.pointer p0,.int .i64 p1] cB h λ(t2:Bool) h2=>J1 (!t2) h2)
theorem c19 {p0 p1 h Q} (hk:F19 p0 p1 h Q):ZA TP 19 [.pointer p0,.int .i64 p1] (cP) h Q:=cc a19 n19 hk
def a49:Ann:=mkA 128 [] 0 (bc [(7,ZAn)])
def n49:An:=(s0 (sq (s0 (cn (s0 lf) lf)) (s0 (sq (s0 (s0 (cn (s0 lf) lf))) (sq (.reg [(0,[]),(1,[]),(2,[]),(3,[]),(4,[]),(9,[]),(10,[]),(11,[]),(5,[]),(12,[]),(6,[]),(7,[12]),(8,[]),(13,[]),(14,[])]) lf)))))
def F49 (p0:Option Addr) (p1:Int) (p2:Int) (p3:Msg) (h:Hp) (Q:Sl->Hp->Prop):Prop:=ZB p0.isNone (Q ⟨none,0,0⟩ h) (ZM (Obj.cells ⟨[.int .i64 p1,.int .i64 0,.slice none 0 0]⟩ 191) h λk1 h1=>ZA TP 78 [.pointer p0,.pointer (some ⟨k1,0,none⟩),.agg ⟨[.int .i64 p3.Kind,.int .i64 p3.F_0,.int .i64 p3.F_1,.int .i64 p3.F_2,.int .i64 p3.F_3,.int .i64 p3.F_4,.int .i64 p3.F_5]⟩] (cI IntKind.i64) h1 λ(n1:Int) h2=>ZB (n1 != 0) (ZM (Obj.cells ⟨[.int .i64 p2,.int .i64 n1]⟩ 2) h2 λk2 h3=>ZA TP 79 [.int .i64 p1,.int .i64 19,.slice (some ⟨k2,0,none⟩) 2 2] ZCJ h3 λ(x1:Out) h4=>ZM (Obj.cells ⟨[.int .i64 x1.To,.int .i64 x1.Msg_Kind,.int .i64 x1.Msg_F_0,.int .i64 x1.Msg_F_1,.int .i64 x1.Msg_F_2,.int .i64 x1.Msg_F_3,.int .i64 x1.Msg_F_4,.int .i64 x1.Msg_F_5]⟩ 78) h4 λk3 h5=>Q ⟨some ⟨k3,0,none⟩,1,1⟩ h5) (ZC (cI IntKind.i64) ⟨k1,0+1,none⟩ h2 λ(n2:Int)=>ZC cSl ⟨k1,0+2,none⟩ h2 λ(s1:Sl)=>ZM (Obj.cells ⟨[.int .i64 p2,.int .i64 n2]⟩ 2) h2 λk4 h6=>ZA TP 79 [.int .i64 p1,.int .i64 18,.slice (some ⟨k4,0,none⟩) 2 2] ZCJ h6 λ(x2:Out) h7=>(h7.rds ⟨k1,0+2,none⟩ [.slice s1.a s1.len s1.cap]/\True)/\ZM (Obj.cells ⟨[.int .i64 x2.To,.int .i64 x2.Msg_Kind,.int .i64 x2.Msg_F_0,.int .i64 x2.Msg_F_1,.int .i64 x2.Msg_F_2,.int .i64 x2.Msg_F_3,.int .i64 x2.Msg_F_4,.int .i64 x2.Msg_F_5]⟩ 78) h7 λk5 h8=>ZX ZCJ 78 64 (some ⟨k5,0,none⟩) 1 1 s1.a s1.len h8 λ(p1:Option Addr) (k6 k7:Nat) h9=>Q ⟨p1,k6,k7⟩ h9))
theorem c49 {p0 p1 p2 p3 h Q} (hk:F49 p0 p1 p2 p3 h Q):ZA TP 49 [.pointer p0,.int .i64 p1,.int .i64 p2,ZAn.enc p3] (cSl) h Q:=cc a49 n49 hk
def a50:Ann:=mkA 96 [(38,5),(44,5),(51,5),(55,5),(59,6),(68,5),(72,6)] 0 (bc [(5,ZBk),(6,ZAb)])
def n50:An:=(s0 (sq (s0 (cn (s0 lf) lf)) (s0 (s0 (sq (sq (rg [0,1,2,4,5,6,10,3,7,8,9]) (bk (.loop [(29,false,cI .i64)] 2417851639229257812541664 (s0 (sq (cn lf lf) (sq (bk (s0 (sq (rg [0,1,2,4,5,10,3,6,7,8,9,11,12]) (.blockJ [] 1208925819605833081683968 (s0 (cn (rg [0,1,2,4,5,3,6]) (.join [(54,false,cB)] 9205357638345293824 r0 (cn r0 (.join [(67,false,cB)] 75410289773324647006208 r0 (cn r0 lf)))))))))) r0)))))) (s0 lf))))))
def F50 (p0:Option Addr) (h:Hp) (Q:Sl->Hp->Prop):Prop:=ZB p0.isNone (Q ⟨none,0,0⟩ h) (ZM (Obj.cells ⟨[.int .i64 0,.int .i64 0,.slice none 0 0]⟩ 191) h λk1 h1=>ZR p0 λa1=>ZC (cI IntKind.i64) ⟨a1.block,a1.off+4,none⟩ h1 λ(n1:Int)=>ZR p0 λa2=>ZV (cI IntKind.i64) ⟨a2.block,a2.off+4,none⟩ (IntKind.i64.wrap (n1+1)) h1 λh2=>ZR p0 λa3=>ZR p0 λa4=>ZC cP ⟨a3.block,a3.off+9,none⟩ h2 λ(p1:Option Addr)=>ZC (cI IntKind.i64) ⟨a4.block,a4.off+4,none⟩ h2 λ(n2:Int)=>ZA TP 80 [.pointer p1,.int .i64 n2] cSl h2 λ(s1:Sl) h3=>Zj 0 h3 λ(J1:Int->Hp->Prop) (n3:Int) h4=>ZB (decide (n3<(↑s1.len:Int))) (Zl s1.a s1.len n3 λa5=>ZC ZBk (a5.add (n3.toNat*3)) h4 λ(x1:Due)=>ZR p0 λa6=>ZC cP ⟨a6.block,a6.off+8,none⟩ h4 λ(p2:Option Addr)=>ZA TP 81 [.pointer p2,.int .i64 x1.ID] (ZW [ZAb,cB]) h4 λ(z1:Ask×Bool) h5=>ZY (λu1 h6=>J1 (IntKind.i64.wrap (n3+1)) h6) λ(J2:PUnit->Hp->Prop)=>ZB (x1.Kind==3) (ZR p0 λa7=>ZC cP ⟨a7.block,a7.off+7,none⟩ h5 λ(p3:Option Addr)=>ZA TP 82 [.pointer p3,.int .i64 x1.ID] cB h5 λ(t1:Bool) h7=>J2 PUnit.unit h7) (ZY (λ(t2:Bool) h8=>ZB t2 (ZA TP 83 [.pointer p0,.pointer (some ⟨k1,0,none⟩),.agg ⟨[.int .i64 z1.fst.ID,.int .i64 z1.fst.Client,.int .i64 z1.fst.Bond,.int .i64 z1.fst.Side,.int .i64 z1.fst.Qty,.int .u64 z1.fst.Dealers,.int .i64 z1.fst.Ends,.int .i64 z1.fst.Until,.int .i64 z1.fst.State,.int .i64 z1.fst.Hit]⟩] (ZW []) h8 λu2 h9=>J2 PUnit.unit h9) (ZY (λ(t3:Bool) h10=>ZB t3 (ZA TP 84 [.pointer p0,.pointer (some ⟨k1,0,none⟩),.agg ⟨[.int .i64 z1.fst.ID,.int .i64 z1.fst.Client,.int .i64 z1.fst.Bond,.int .i64 z1.fst.Side,.int .i64 z1.fst.Qty,.int .u64 z1.fst.Dealers,.int .i64 z1.fst.Ends,.int .i64 z1.fst.Until,.int .i64 z1.fst.State,.int .i64 z1.fst.Hit]⟩] (ZW []) h10 λu3 h11=>J2 PUnit.unit h11) (J2 PUnit.unit h10)) λ(J3:Bool->Hp->Prop)=>ZB (x1.Kind==1) (J3 (z1.fst.State==1) h8) (J3 false h8))) λ(J4:Bool->Hp->Prop)=>ZB (x1.Kind==2) (J4 (z1.fst.State==2) h5) (J4 false h5))) (ZC cSl ⟨k1,0+2,none⟩ h4 λ(s2:Sl)=>Q s2 h4))
theorem c50 {p0 h Q} (hk:F50 p0 h Q):ZA TP 50 [.pointer p0] (cSl) h Q:=cc a50 n50 hk
def a51:Ann:=mkA 10240 [(41,11),(46,11),(51,11),(53,11),(79,13),(86,13)] 0 (bc [(11,ZK),(13,ZS)])
def n51:An:=(s0 (sq (s0 (cn (s0 lf) lf)) (s0 (sq (s0 (bk (.loop [(23,false,cI .i64)] 1152921504598461056 (s0 (sq (cn lf lf) (sq (bk (s0 (s0 (bk (.loop [(29,false,cI .i64)] 576460751766555136 (s0 (sq (cn lf lf) (sq (bk (s0 (s0 (bk (.loop [(37,false,cI .i64)] 288230238712760320 (s0 (sq (cn lf lf) (sq (.blockJ [] 144114638320044032 (s0 (s0 (cn (s0 r0) lf)))) r0)))))))) r0)))))))) r0)))))) (sq (s0 (bk (.loop [(67,false,cI .i64)] 1237939891711427685222719488 (s0 (sq (cn lf lf) (sq (.blockJ [] 618969429346879778743918592 (s0 (s0 (cn (sq (rg [0,1,2,4,5,3,6]) (rg [0,1,2,4,5,3,6])) lf)))) r0)))))) (s0 lf))))))
def F51 (p0:Option Addr) (p1:Int) (h:Hp) (Q:Sl->Hp->Prop):Prop:=ZB p0.isNone (Q ⟨none,0,0⟩ h) (ZM (Obj.cells ⟨[.int .i64 0,.int .i64 0,.slice none 0 0]⟩ 191) h λk1 h1=>ZR p0 λa1=>ZC cSl ⟨a1.block,a1.off+5,none⟩ h1 λ(s1:Sl)=>Zj 0 h1 λ(J1:Int->Hp->Prop) (n1:Int) h2=>ZB (decide (n1<(↑s1.len:Int))) (Zl s1.a s1.len n1 λa2=>ZC cP (a2.add (n1.toNat*1)) h2 λ(p1_1:Option Addr)=>ZM (Obj.cells ⟨[.int .i64 1,.int .i64 2]⟩ 3) h2 λk2 h3=>Zj 0 h3 λ(J2:Int->Hp->Prop) (n2:Int) h4=>ZB (decide (n2<2)) (Zl (some ⟨k2,0,none⟩) 2 n2 λa3=>ZC (cI IntKind.i64) (a3.add (n2.toNat*1)) h4 λ(n3:Int)=>ZA TP 20 [.pointer p1_1,.int .i64 n3] cSl h4 λ(s2:Sl) h5=>Zj 0 h5 λ(J3:Int->Hp->Prop) (n4:Int) h6=>ZB (decide (n4<(↑s2.len:Int))) (ZY (λu1 h7=>J3 (IntKind.i64.wrap (n4+1)) h7) λ(J4:PUnit->Hp->Prop)=>Zl s2.a s2.len n4 λa4=>ZC ZK (a4.add (n4.toNat*6)) h6 λ(x1:ZE)=>ZB (x1.Owner==p1) (ZA TP 85 [.pointer p1_1,.int .i64 x1.ID] (ZW [ZK,cB]) h6 λ(z1:ZE×Bool) h8=>ZM (Obj.cells ⟨[.int .i64 x1.ID,.int .i64 x1.Left]⟩ 2) h8 λk3 h9=>ZA TP 86 [.pointer (some ⟨k1,0,none⟩),.int .i64 p1,.int .i64 21,.slice (some ⟨k3,0,none⟩) 2 2] (ZW []) h9 λu2 h10=>J4 PUnit.unit h10) (J4 PUnit.unit h6)) (J2 (IntKind.i64.wrap (n2+1)) h6)) (J1 (IntKind.i64.wrap (n1+1)) h4)) (ZR p0 λa5=>ZC cP ⟨a5.block,a5.off+7,none⟩ h2 λ(p2:Option Addr)=>ZA TP 87 [.pointer p2,.int .i64 p1] cSl h2 λ(s3:Sl) h11=>Zj 0 h11 λ(J5:Int->Hp->Prop) (n5:Int) h12=>ZB (decide (n5<(↑s3.len:Int))) (ZY (λu3 h13=>J5 (IntKind.i64.wrap (n5+1)) h13) λ(J6:PUnit->Hp->Prop)=>Zl s3.a s3.len n5 λa6=>ZC ZS (a6.add (n5.toNat*6)) h12 λ(x2:Za)=>ZA TP 88 [.pointer p0,.agg ⟨[.int .i64 x2.ID,.int .i64 x2.Ask,.int .i64 x2.Dealer,.int .i64 x2.Price,.int .i64 x2.Expires,.bool x2.Live]⟩] cB h12 λ(t1:Bool) h14=>ZB (!t1) (ZR p0 λa7=>ZC cP ⟨a7.block,a7.off+7,none⟩ h14 λ(p3:Option Addr)=>ZA TP 82 [.pointer p3,.int .i64 x2.ID] cB h14 λ(t2:Bool) h15=>ZR p0 λa8=>ZC cP ⟨a8.block,a8.off+9,none⟩ h15 λ(p4:Option Addr)=>ZA TP 89 [.pointer p4,.int .i64 3,.int .i64 x2.ID] cB h15 λ(t3:Bool) h16=>J6 PUnit.unit h16) (J6 PUnit.unit h14)) (ZC cSl ⟨k1,0+2,none⟩ h12 λ(s4:Sl)=>Q s4 h12)))
theorem c51 {p0 p1 h Q} (hk:F51 p0 p1 h Q):ZA TP 51 [.pointer p0,.int .i64 p1] (cSl) h Q:=cc a51 n51 hk
def a56:Ann:=mkA 0 [] 0 (bc [])
def n56:An:=(s0 (s0 lf))
def F56 (p0:Option Addr) (p1:Int) (h:Hp) (Q:Bool->Hp->Prop):Prop:=ZB (decide (p1>=0)) (ZR p0 λa1=>ZC cSl ⟨a1.block,a1.off+5,none⟩ h λ(s1:Sl)=>Q (decide (p1<(↑s1.len:Int))) h) (Q false h)
theorem c56 {p0 p1 h Q} (hk:F56 p0 p1 h Q):ZA TP 56 [.pointer p0,.int .i64 p1] (cB) h Q:=cc a56 n56 hk
def a78:Ann:=mkA 32 [(7,5),(25,5),(30,5),(65,5),(66,5),(77,5),(78,5),(80,5),(81,5)] 0 (bc [(5,ZAn)])
def n78:An:=(s0 (sq (.join [(29,false,cB)] 1073741696 (rg [0,1,2,3,4,5,6,7,8,9,10,11,12,14,15,16,18,19,13,17,20,21,22]) (cn (s0 lf) lf)) (sq (s0 (bk (.join [(32,false,cB)] 64424509440 (s0 (cn lf (s0 (cn lf r0)))) (cn (s0 lf) (.join [(40,false,cB)] 7696581394432 (s0 (cn lf r0)) (cn (s0 lf) (.join [(47,false,cB)] 985162418487296 (s0 (cn lf r0)) (cn (s0 lf) (.join [(54,false,cB)] 126100789566373888 (s0 (cn lf r0)) (cn (s0 lf) (s0 (cn (s0 lf) (s0 (cn (s0 lf) lf)))))))))))))) (s0 lf))))
def F78 (p0:Option Addr) (p1:Option Addr) (p2:Msg) (h:Hp) (Q:Int->Hp->Prop):Prop:=ZY (λ(t1:Bool) h1=>ZB t1 (Q 5 h1) (ZY (λ(t2:Bool) h2=>ZB t2 (ZA TP 131 [.pointer p0,.pointer p1,.agg ⟨[.int .i64 p2.Kind,.int .i64 p2.F_0,.int .i64 p2.F_1,.int .i64 p2.F_2,.int .i64 p2.F_3,.int .i64 p2.F_4,.int .i64 p2.F_5]⟩] (cI IntKind.i64) h2 λ(n1:Int) h3=>Q n1 h3) (ZY (λ(t3:Bool) h4=>ZB t3 (ZA TP 132 [.pointer p0,.pointer p1,.agg ⟨[.int .i64 p2.Kind,.int .i64 p2.F_0,.int .i64 p2.F_1,.int .i64 p2.F_2,.int .i64 p2.F_3,.int .i64 p2.F_4,.int .i64 p2.F_5]⟩] (cI IntKind.i64) h4 λ(n2:Int) h5=>Q n2 h5) (ZY (λ(t4:Bool) h6=>ZB t4 (ZA TP 133 [.pointer p0,.pointer p1,.agg ⟨[.int .i64 p2.Kind,.int .i64 p2.F_0,.int .i64 p2.F_1,.int .i64 p2.F_2,.int .i64 p2.F_3,.int .i64 p2.F_4,.int .i64 p2.F_5]⟩] (cI IntKind.i64) h6 λ(n3:Int) h7=>Q n3 h7) (ZY (λ(t5:Bool) h8=>ZB t5 (ZA TP 134 [.pointer p0,.pointer p1,.agg ⟨[.int .i64 p2.Kind,.int .i64 p2.F_0,.int .i64 p2.F_1,.int .i64 p2.F_2,.int .i64 p2.F_3,.int .i64 p2.F_4,.int .i64 p2.F_5]⟩] (cI IntKind.i64) h8 λ(n4:Int) h9=>Q n4 h9) (ZB (p2.Kind==16) (atP 6 0 (ZA TP 135 [.pointer p0,.pointer p1,.int .i64 p2.F_0] (cI IntKind.i64) h8 λ(n5:Int) h10=>Q n5 h10)) (ZB (p2.Kind==9) (ZA TP 136 [.pointer p0,.pointer p1,.agg ⟨[.int .i64 p2.Kind,.int .i64 p2.F_0,.int .i64 p2.F_1,.int .i64 p2.F_2,.int .i64 p2.F_3,.int .i64 p2.F_4,.int .i64 p2.F_5]⟩] (cI IntKind.i64) h8 λ(n6:Int) h11=>Q n6 h11) (atP 6 0 (atP 6 1 (ZA TP 137 [.pointer p0,.pointer p1,.int .i64 p2.F_0,.int .i64 p2.F_1] (cI IntKind.i64) h8 λ(n7:Int) h12=>Q n7 h12)))))) λ(J1:Bool->Hp->Prop)=>ZB (p2.Kind==14) (J1 (p2.Kind==14) h6) (J1 (p2.Kind==15) h6))) λ(J2:Bool->Hp->Prop)=>ZB (p2.Kind==12) (J2 (p2.Kind==12) h4) (J2 (p2.Kind==13) h4))) λ(J3:Bool->Hp->Prop)=>ZB (p2.Kind==10) (J3 (p2.Kind==10) h2) (J3 (p2.Kind==11) h2))) λ(J4:Bool->Hp->Prop)=>ZB (p2.Kind==6) (J4 (p2.Kind==6) h1) (ZB (p2.Kind==7) (J4 (p2.Kind==7) h1) (J4 (p2.Kind==8) h1)))) λ(J5:Bool->Hp->Prop)=>ZA TP 128 [.int .i64 p2.Kind] cB h λ(t6:Bool) h13=>ZB (!t6) (J5 true h13) (ZA TP 129 [.agg ⟨[.int .i64 p2.Kind,.int .i64 p2.F_0,.int .i64 p2.F_1,.int .i64 p2.F_2,.int .i64 p2.F_3,.int .i64 p2.F_4,.int .i64 p2.F_5]⟩] cB h13 λ(t7:Bool) h14=>ZB (!t7) (J5 true h14) (ZR p0 λa1=>ZR p1 λa2=>ZC cP ⟨a1.block,a1.off+6,none⟩ h14 λ(p1:Option Addr)=>ZC (cI IntKind.i64) (a2.add 0) h14 λ(n8:Int)=>ZA TP 130 [.pointer p1,.int .i64 n8,.int .i64 p2.Kind] cB h14 λ(t8:Bool) h15=>J5 (!t8) h15))
theorem c78 {p0 p1 p2 h Q} (hk:F78 p0 p1 p2 h Q):ZA TP 78 [.pointer p0,.pointer p1,ZAn.enc p2] (cI .i64) h Q:=cc a78 n78 hk
def a83:Ann:=mkA 32 [(10,5),(17,5),(28,5),(32,5),(34,5),(36,5)] 0 (bc [(5,ZAb)])
def n83:An:=(s0 (sq (rg [0,1,2,4,5,3,6]) (sq (sq (rg [0,1,2,4,5,3,6]) (cn (s0 lf) lf)) (sq (rg [0,1,2,4,5,3,6]) r0))))
def F83 (p0:Option Addr) (p1:Option Addr) (p2:Ask) (h:Hp) (Q:Unit->Hp->Prop):Prop:=ZR p0 λa1=>ZC cP ⟨a1.block,a1.off+7,none⟩ h λ(p1_1:Option Addr)=>ZA TP 82 [.pointer p1_1,.int .i64 p2.Hit] cB h λ(t1:Bool) h1=>ZR p0 λa2=>ZC (cI IntKind.i64) ⟨a2.block,a2.off+4,none⟩ h1 λ(n1:Int)=>ZB (decide (n1>=p2.Ends)) (ZA TP 84 [.pointer p0,.pointer p1,.agg ⟨[.int .i64 p2.ID,.int .i64 p2.Client,.int .i64 p2.Bond,.int .i64 p2.Side,.int .i64 p2.Qty,.int .u64 p2.Dealers,.int .i64 p2.Ends,.int .i64 p2.Until,.int .i64 p2.State,.int .i64 p2.Hit]⟩] (ZW []) h1 λu1 h2=>Q PUnit.unit h2) (ZR p0 λa3=>ZC cP ⟨a3.block,a3.off+8,none⟩ h1 λ(p2_1:Option Addr)=>ZA TP 142 [.pointer p2_1,.int .i64 p2.ID] (cI IntKind.i64) h1 λ(n2:Int) h3=>ZM (Obj.cells ⟨[.int .i64 p2.ID,.int .i64 p2.Hit]⟩ 2) h3 λk1 h4=>ZA TP 86 [.pointer p1,.int .i64 p2.Client,.int .i64 25,.slice (some ⟨k1,0,none⟩) 2 2] (ZW []) h4 λu2 h5=>Q PUnit.unit h5)
theorem c83 {p0 p1 p2 h Q} (hk:F83 p0 p1 p2 h Q):ZA TP 83 [.pointer p0,.pointer p1,ZAb.enc p2] (ZW []) h Q:=cc a83 n83 hk
def a84:Ann:=mkA 32 [(10,5),(14,5),(18,5),(20,5)] 0 (bc [(5,ZAb)])
def n84:An:=(s0 (sq (rg [0,1,2,4,5,3,6]) (s0 r0)))
def F84 (p0:Option Addr) (p1:Option Addr) (p2:Ask) (h:Hp) (Q:Unit->Hp->Prop):Prop:=ZR p0 λa1=>ZC cP ⟨a1.block,a1.off+8,none⟩ h λ(p1_1:Option Addr)=>ZA TP 143 [.pointer p1_1,.int .i64 p2.ID,.int .i64 4] (cI IntKind.i64) h λ(n1:Int) h1=>ZA TP 144 [.pointer p0,.int .i64 p2.ID] (ZW []) h1 λu1 h2=>ZM (Obj.cells ⟨[.int .i64 p2.ID]⟩ 2) h2 λk1 h3=>ZA TP 86 [.pointer p1,.int .i64 p2.Client,.int .i64 27,.slice (some ⟨k1,0,none⟩) 1 1] (ZW []) h3 λu2 h4=>Q PUnit.unit h4
theorem c84 {p0 p1 p2 h Q} (hk:F84 p0 p1 p2 h Q):ZA TP 84 [.pointer p0,.pointer p1,ZAb.enc p2] (ZW []) h Q:=cc a84 n84 hk
def a86:Ann:=mkA 0 [] 0 (bc [])
def n86:An:=(.reg [(0,[]),(1,[]),(2,[]),(3,[]),(5,[]),(6,[]),(7,[]),(4,[]),(8,[4]),(9,[]),(10,[]),(11,[]),(12,[]),(13,[])])
def F86 (p0:Option Addr) (p1:Int) (p2:Int) (p3:Sl) (h:Hp) (Q:Unit->Hp->Prop):Prop:=ZR p0 λa1=>ZC cSl ⟨a1.block,a1.off+2,none⟩ h λ(s1:Sl)=>ZA TP 79 [.int .i64 p1,.int .i64 p2,.slice p3.a p3.len p3.cap] ZCJ h λ(x1:Out) h1=>(h1.rds ⟨a1.block,a1.off+2,none⟩ [.slice s1.a s1.len s1.cap]/\True)/\ZM (Obj.cells ⟨[.int .i64 x1.To,.int .i64 x1.Msg_Kind,.int .i64 x1.Msg_F_0,.int .i64 x1.Msg_F_1,.int .i64 x1.Msg_F_2,.int .i64 x1.Msg_F_3,.int .i64 x1.Msg_F_4,.int .i64 x1.Msg_F_5]⟩ 78) h1 λk1 h2=>ZX ZCJ 78 64 s1.a s1.len s1.cap (some ⟨k1,0,none⟩) 1 h2 λ(p1:Option Addr) (k2 k3:Nat) h3=>ZR p0 λa2=>ZV cSl ⟨a2.block,a2.off+2,none⟩ ⟨p1,k2,k3⟩ h3 λh4=>Q PUnit.unit h4
theorem c86 {p0 p1 p2 p3 h Q} (hk:F86 p0 p1 p2 p3 h Q):ZA TP 86 [.pointer p0,.int .i64 p1,.int .i64 p2,.slice p3.a p3.len p3.cap] (ZW []) h Q:=cc a86 n86 hk
def a88:Ann:=mkA 40 [(12,3),(19,5),(24,5),(26,3)] 0 (bc [(3,ZS),(5,ZAb)])
def n88:An:=(s0 (sq (rg [0,1,2,4,5,10,3,6,7,8,9,11,12]) (s0 lf)))
def F88 (p0:Option Addr) (p1:Za) (h:Hp) (Q:Bool->Hp->Prop):Prop:=ZR p0 λa1=>ZC cP ⟨a1.block,a1.off+8,none⟩ h λ(p1_1:Option Addr)=>ZA TP 81 [.pointer p1_1,.int .i64 p1.Ask] (ZW [ZAb,cB]) h λ(z1:Ask×Bool) h1=>ZB z1.snd (ZB (z1.fst.State==2) (Q (z1.fst.Hit==p1.ID) h1) (Q false h1)) (Q false h1)
theorem c88 {p0 p1 h Q} (hk:F88 p0 p1 h Q):ZA TP 88 [.pointer p0,ZS.enc p1] (cB) h Q:=cc a88 n88 hk
def a131:Ann:=mkA 544 [(11,5),(18,5),(19,5),(41,9),(52,5),(59,5),(60,5),(62,5),(63,5),(81,9)] 0 (bc [(5,ZAn),(9,ZK)])
def n131:An:=(s0 (sq (s0 (cn (s0 lf) lf)) (s0 (s0 (sq (s0 (cn (s0 lf) lf)) (sq (rg [0,1,2,4,12,3,5,6,7,8,9,10,11,13,14]) (sq (sq (rg [0,1,2,3,4,5,6]) (cn (s0 lf) lf)) (s0 (sq (s0 (cn (s0 lf) lf)) (sq (rg [0,1,2,4,3,5,6,7,8]) (sq (rg [0,1,2,3,6,7,4,5,8,9]) (s0 lf))))))))))))
def F131 (p0:Option Addr) (p1:Option Addr) (p2:Msg) (h:Hp) (Q:Int->Hp->Prop):Prop:=ZB (p2.Kind==6) (ZA TP 200 [.pointer p0,.pointer p1,.agg ⟨[.int .i64 p2.Kind,.int .i64 p2.F_0,.int .i64 p2.F_1,.int .i64 p2.F_2,.int .i64 p2.F_3,.int .i64 p2.F_4,.int .i64 p2.F_5]⟩] (cI IntKind.i64) h λ(n1:Int) h1=>Q n1 h1) (atP 6 0 (ZM (Obj.cells ⟨[.int .i64 0]⟩ 2) h λk1 h2=>ZV (cI IntKind.i64) ⟨k1,0,none⟩ p2.F_0 h2 λh3=>ZR p0 λa1=>ZC cSl ⟨a1.block,a1.off+5,none⟩ h3 λ(s1:Sl)=>ZA TP 201 [.slice s1.a s1.len s1.cap,.func (Fn.func 202) ⟨[]⟩ ⟨[.pointer (some ⟨k1,0,none⟩)]⟩] (cI IntKind.i64) h3 λ(n2:Int) h4=>ZB (decide (n2<0)) (Q 4 h4) (ZR p0 λa2=>ZC cSl ⟨a2.block,a2.off+5,none⟩ h4 λ(s2:Sl)=>Zl s2.a s2.len n2 λa3=>ZC cP (a3.add (n2.toNat*1)) h4 λ(p1_1:Option Addr)=>ZC (cI IntKind.i64) ⟨k1,0,none⟩ h4 λ(n3:Int)=>ZA TP 203 [.pointer p1_1,.int .i64 n3] (ZW [ZK,cB]) h4 λ(z1:ZE×Bool) h5=>ZR p1 λa4=>ZC (cI IntKind.i64) (a4.add 0) h5 λ(n4:Int)=>ZB (z1.fst.Owner != n4) (Q 5 h5) (ZC (cI IntKind.i64) ⟨k1,0,none⟩ h5 λ(n5:Int)=>ZR p1 λa5=>ZV (cI IntKind.i64) ⟨a5.block,a5.off+1,none⟩ n5 h5 λh6=>ZB (p2.Kind==8) (atP 6 1 (atP 6 2 (ZA TP 204 [.pointer p0,.pointer p1,.int .i64 n2,.agg ⟨[.int .i64 z1.fst.ID,.int .i64 z1.fst.Seq,.int .i64 z1.fst.Owner,.int .i64 z1.fst.Side,.int .i64 z1.fst.Price,.int .i64 z1.fst.Left]⟩,.int .i64 p2.F_1,.int .i64 p2.F_2] (cI IntKind.i64) h6 λ(n6:Int) h7=>Q n6 h7))) (ZR p0 λa6=>ZC cSl ⟨a6.block,a6.off+5,none⟩ h6 λ(s3:Sl)=>Zl s3.a s3.len n2 λa7=>ZC cP (a7.add (n2.toNat*1)) h6 λ(p2:Option Addr)=>ZC (cI IntKind.i64) ⟨k1,0,none⟩ h6 λ(n7:Int)=>ZA TP 85 [.pointer p2,.int .i64 n7] (ZW [ZK,cB]) h6 λ(z2:ZE×Bool) h8=>ZR p1 λa8=>ZC (cI IntKind.i64) (a8.add 0) h8 λ(n8:Int)=>ZC (cI IntKind.i64) ⟨k1,0,none⟩ h8 λ(n9:Int)=>ZM (Obj.cells ⟨[.int .i64 n9,.int .i64 z1.fst.Left]⟩ 2) h8 λk2 h9=>ZA TP 86 [.pointer p1,.int .i64 n8,.int .i64 21,.slice (some ⟨k2,0,none⟩) 2 2] (ZW []) h9 λu1 h10=>Q 0 h10)))))
theorem c131 {p0 p1 p2 h Q} (hk:F131 p0 p1 p2 h Q):ZA TP 131 [.pointer p0,.pointer p1,ZAn.enc p2] (cI .i64) h Q:=cc a131 n131 hk
def a132:Ann:=mkA 4256 [(15,5),(20,5),(21,5),(29,5),(30,5),(35,5),(36,5),(38,5),(39,5),(45,7),(55,7),(64,7),(74,7),(91,7),(135,12),(137,12),(142,7),(144,7),(146,12),(149,12)] 0 (bc [(5,ZAn),(7,ZAb),(12,ZS)])
def n132:An:=(s0 (sq (s0 (cn (s0 lf) lf)) (sq (rg [0,1,2,4,5,6,11,3,7,8,9,10,12,13]) (sq (rg [0,1,2,3,4,5,6,7]) (sq (bk (s0 (cn (s0 lf) (sq (rg [0,1,2,3,4,5,6,7,8,9]) (cn (s0 lf) (s0 (cn (s0 lf) (sq (rg [0,1,2,3,5,6,4,7,8,9,10]) (cn (s0 lf) lf))))))))) (sq (sq (rg [0,1,2,3,5,6,9,4,7,8,10,11]) (s0 (cn (s0 lf) lf))) (sq (s0 (cn (s0 lf) lf)) (sq (rg [0,1,2,5,6,7,8,9,11,12,13,14,16,19,3,4,10,15,17,18,20]) (sq (sq (rg [0,1,2,4,3,5,6,7,8,9,10]) (s0 (cn (s0 lf) lf))) (s0 (s0 (sq (rg [0,1,2,4,5,6,7,8,3,9]) (s0 (s0 lf))))))))))))))
def F132 (p0:Option Addr) (p1:Option Addr) (p2:Msg) (h:Hp) (Q:Int->Hp->Prop):Prop:=ZB (p2.Kind==11) (atP 6 0 (ZA TP 205 [.pointer p0,.pointer p1,.int .i64 p2.F_0] (cI IntKind.i64) h λ(n1:Int) h1=>Q n1 h1)) (ZR p0 λa1=>atP 6 0 (ZC cP ⟨a1.block,a1.off+8,none⟩ h λ(p1_1:Option Addr)=>ZA TP 81 [.pointer p1_1,.int .i64 p2.F_0] (ZW [ZAb,cB]) h λ(z1:Ask×Bool) h2=>atP 6 1 (atP 6 2 (ZB (!z1.snd) (Q 4 h2) (ZR p1 λa2=>ZC (cI IntKind.i64) (a2.add 0) h2 λ(n2:Int)=>0<=n2/\ZB (ZDH IntKind.u64 (ZBT IntKind.u64 z1.fst.Dealers n2) (1:Int)==0) (Q 5 h2) (ZB (z1.fst.State != 1) (Q 11 h2) (ZR p0 λa3=>ZC cSl ((a3.add 0).add 0) h2 λ(s1:Sl)=>Zl s1.a s1.len z1.fst.Bond λa4=>ZC cB ⟨(a4.add (z1.fst.Bond.toNat*7)).block,(a4.add (z1.fst.Bond.toNat*7)).off+6,none⟩ h2 λ(t1:Bool)=>ZB t1 (Q 6 h2) (ZR p0 λa5=>ZC cSl ((a5.add 0).add 0) h2 λ(s2:Sl)=>Zl s2.a s2.len z1.fst.Bond λa6=>ZC ZAB (a6.add (z1.fst.Bond.toNat*7)) h2 λ(x1:Bond)=>ZA TP 206 [.agg ⟨[.int .i64 x1.Tick,.int .i64 x1.Lot,.int .i64 x1.Min,.int .i64 x1.Max,.int .i64 x1.Low,.int .i64 x1.High,.bool x1.Halted]⟩,.int .i64 p2.F_1] (cI IntKind.i64) h2 λ(n3:Int) h3=>ZB (n3 != 0) (Q n3 h3) (ZA TP 207 [.int .i64 p2.F_2] cB h3 λ(t2:Bool) h4=>ZB (!t2) (Q 1 h4) (ZR p0 λa7=>ZR p1 λa8=>ZR p0 λa9=>ZC (cI IntKind.i64) ⟨a7.block,a7.off+14,none⟩ h4 λ(n4:Int)=>ZC (cI IntKind.i64) (a8.add 0) h4 λ(n5:Int)=>ZC (cI IntKind.i64) ⟨a9.block,a9.off+4,none⟩ h4 λ(n6:Int)=>ZR p0 λa10=>ZC cP ⟨a10.block,a10.off+7,none⟩ h4 λ(p2_1:Option Addr)=>ZA TP 208 [.pointer p2_1,.agg ⟨[.int .i64 (IntKind.i64.wrap (n4+1)),.int .i64 z1.fst.ID,.int .i64 n5,.int .i64 p2.F_1,.int .i64 (IntKind.i64.wrap (n6+p2.F_2)),.bool true]⟩] (ZW [cI IntKind.i64,cI IntKind.i64]) h4 λ(z2:Int×Int) h5=>ZB (z2.snd != 0) (Q z2.snd h5) (ZR p0 λa11=>ZC (cI IntKind.i64) ⟨a11.block,a11.off+14,none⟩ h5 λ(n7:Int)=>ZR p0 λa12=>ZV (cI IntKind.i64) ⟨a12.block,a12.off+14,none⟩ (IntKind.i64.wrap (n7+1)) h5 λh6=>ZR p0 λa13=>ZC (cI IntKind.i64) ⟨a13.block,a13.off+14,none⟩ h6 λ(n8:Int)=>ZR p1 λa14=>ZV (cI IntKind.i64) ⟨a14.block,a14.off+1,none⟩ n8 h6 λh7=>ZR p0 λa15=>ZC cP ⟨a15.block,a15.off+9,none⟩ h7 λ(p3:Option Addr)=>ZA TP 209 [.pointer p3,.agg ⟨[.int .i64 (IntKind.i64.wrap (n6+p2.F_2)),.int .i64 3,.int .i64 (IntKind.i64.wrap (n4+1))]⟩] cB h7 λ(t3:Bool) h8=>ZM (Obj.cells ⟨[.int .i64 z1.fst.ID,.int .i64 (IntKind.i64.wrap (n4+1)),.int .i64 p2.F_1,.int .i64 (IntKind.i64.wrap (n6+p2.F_2))]⟩ 2) h8 λk1 h9=>ZA TP 86 [.pointer p1,.int .i64 z1.fst.Client,.int .i64 23,.slice (some ⟨k1,0,none⟩) 4 4] (ZW []) h9 λu1 h10=>Q 0 h10)))))))))))
theorem c132 {p0 p1 p2 h Q} (hk:F132 p0 p1 p2 h Q):ZA TP 132 [.pointer p0,.pointer p1,ZAn.enc p2] (cI .i64) h Q:=cc a132 n132 hk
def a133:Ann:=mkA 10912 [(15,5),(23,5),(24,5),(34,7),(50,5),(51,5),(60,11),(66,11)] 0 (bc [(5,ZAn),(7,ZS),(9,ZAb),(11,ZAb),(13,ZS)])
def n133:An:=(s0 (sq (s0 (cn (sq (rg [0,1,2,4,5,6,11,3,7,8,9,10,12,13]) (sq (s0 (cn (s0 lf) lf)) (s0 (sq (s0 (cn (s0 lf) lf)) (s0 lf))))) lf)) (s0 (sq (s0 (cn (s0 lf) lf)) (sq (rg [0,1,2,3,4,6,7,8,9,10,17,5,11,12,13,14,15,16,18,19]) (sq (s0 (cn (s0 lf) lf)) (s0 lf)))))))
def F133 (p0:Option Addr) (p1:Option Addr) (p2:Msg) (h:Hp) (Q:Int->Hp->Prop):Prop:=ZB (p2.Kind==12) (ZR p0 λa1=>atP 6 0 (ZC cP ⟨a1.block,a1.off+7,none⟩ h λ(p1_1:Option Addr)=>ZA TP 210 [.pointer p1_1,.int .i64 p2.F_0] (ZW [ZS,cB]) h λ(z1:Za×Bool) h1=>ZB (!z1.snd) (Q 4 h1) (ZA TP 211 [.pointer p0,.pointer p1,.int .i64 z1.fst.Ask] (ZW [ZAb,cI IntKind.i64]) h1 λ(z2:Ask×Int) h2=>ZB (z2.snd != 0) (Q z2.snd h2) (ZA TP 212 [.pointer p0,.pointer p1,.agg ⟨[.int .i64 z2.fst.ID,.int .i64 z2.fst.Client,.int .i64 z2.fst.Bond,.int .i64 z2.fst.Side,.int .i64 z2.fst.Qty,.int .u64 z2.fst.Dealers,.int .i64 z2.fst.Ends,.int .i64 z2.fst.Until,.int .i64 z2.fst.State,.int .i64 z2.fst.Hit]⟩,.agg ⟨[.int .i64 z1.fst.ID,.int .i64 z1.fst.Ask,.int .i64 z1.fst.Dealer,.int .i64 z1.fst.Price,.int .i64 z1.fst.Expires,.bool z1.fst.Live]⟩] (cI IntKind.i64) h2 λ(n1:Int) h3=>Q n1 h3)))) (atP 6 0 (ZA TP 211 [.pointer p0,.pointer p1,.int .i64 p2.F_0] (ZW [ZAb,cI IntKind.i64]) h λ(z3:Ask×Int) h4=>ZB (z3.snd != 0) (Q z3.snd h4) (ZR p0 λa2=>ZR p0 λa3=>ZC cP ⟨a2.block,a2.off+7,none⟩ h4 λ(p2:Option Addr)=>ZC (cI IntKind.i64) ⟨a3.block,a3.off+4,none⟩ h4 λ(n2:Int)=>ZA TP 214 [.pointer p2,.int .i64 z3.fst.ID,.int .i64 n2] cSl h4 λ(s1:Sl) h5=>ZA TP 213 [.int .i64 z3.fst.Side,.slice s1.a s1.len s1.cap] (ZW [ZS,cB]) h5 λ(z4:Za×Bool) h6=>ZB (!z4.snd) (Q 12 h6) (ZA TP 212 [.pointer p0,.pointer p1,.agg ⟨[.int .i64 z3.fst.ID,.int .i64 z3.fst.Client,.int .i64 z3.fst.Bond,.int .i64 z3.fst.Side,.int .i64 z3.fst.Qty,.int .u64 z3.fst.Dealers,.int .i64 z3.fst.Ends,.int .i64 z3.fst.Until,.int .i64 z3.fst.State,.int .i64 z3.fst.Hit]⟩,.agg ⟨[.int .i64 z4.fst.ID,.int .i64 z4.fst.Ask,.int .i64 z4.fst.Dealer,.int .i64 z4.fst.Price,.int .i64 z4.fst.Expires,.bool z4.fst.Live]⟩] (cI IntKind.i64) h6 λ(n3:Int) h7=>Q n3 h7))))
theorem c133 {p0 p1 p2 h Q} (hk:F133 p0 p1 p2 h Q):ZA TP 133 [.pointer p0,.pointer p1,ZAn.enc p2] (cI .i64) h Q:=cc a133 n133 hk
def a134:Ann:=mkA 672 [(18,5),(19,5),(28,7),(36,7),(41,9),(49,7),(53,5),(60,7),(78,9),(80,9),(82,7),(92,7),(96,7),(100,7),(102,7),(104,9),(110,7),(112,7),(114,9),(116,7),(118,9),(120,7),(122,7)] 0 (bc [(5,ZAn),(7,ZAb),(9,ZS)])
def n134:An:=(s0 (sq (rg [0,1,2,4,5,6,11,3,7,8,9,10,12,13]) (sq (bk (s0 (cn (s0 lf) (s0 (cn (s0 lf) lf))))) (sq (rg [0,1,2,4,5,10,3,6,7,8,9,11,12]) (sq (sq (rg [0,1,2,3,4,5,6]) (cn (s0 lf) lf)) (s0 (sq (s0 (cn (sq (rg [0,1,2,4,5,3,6]) (s0 (s0 lf))) lf)) (sq (s0 (s0 (cn (s0 lf) lf))) (sq (sq (rg [0,1,2,4,5,6,7,8,9,3,10,11]) (s0 (cn (s0 lf) lf))) (sq (rg [0,1,2,4,5,3,6]) (s0 (s0 (s0 (s0 lf))))))))))))))
def F134 (p0:Option Addr) (p1:Option Addr) (p2:Msg) (h:Hp) (Q:Int->Hp->Prop):Prop:=ZR p0 λa1=>atP 6 0 (ZC cP ⟨a1.block,a1.off+8,none⟩ h λ(p1_1:Option Addr)=>ZA TP 81 [.pointer p1_1,.int .i64 p2.F_0] (ZW [ZAb,cB]) h λ(z1:Ask×Bool) h1=>ZB (!z1.snd) (Q 4 h1) (ZB (z1.fst.State != 2) (Q 11 h1) (ZR p0 λa2=>ZC cP ⟨a2.block,a2.off+7,none⟩ h1 λ(p2_1:Option Addr)=>ZA TP 210 [.pointer p2_1,.int .i64 z1.fst.Hit] (ZW [ZS,cB]) h1 λ(z2:Za×Bool) h2=>ZR p1 λa3=>ZC (cI IntKind.i64) (a3.add 0) h2 λ(n1:Int)=>ZB (z2.fst.Dealer != n1) (Q 5 h2) (ZR p1 λa4=>ZV (cI IntKind.i64) ⟨a4.block,a4.off+1,none⟩ z1.fst.ID h2 λh3=>ZB (p2.Kind==15) (ZR p0 λa5=>ZC cP ⟨a5.block,a5.off+9,none⟩ h3 λ(p3:Option Addr)=>ZA TP 89 [.pointer p3,.int .i64 2,.int .i64 z1.fst.ID] cB h3 λ(t1:Bool) h4=>ZA TP 83 [.pointer p0,.pointer p1,.agg ⟨[.int .i64 z1.fst.ID,.int .i64 z1.fst.Client,.int .i64 z1.fst.Bond,.int .i64 z1.fst.Side,.int .i64 z1.fst.Qty,.int .u64 z1.fst.Dealers,.int .i64 z1.fst.Ends,.int .i64 z1.fst.Until,.int .i64 z1.fst.State,.int .i64 z1.fst.Hit]⟩] (ZW []) h4 λu1 h5=>Q 0 h5) (ZA TP 215 [.pointer p0,.agg ⟨[.int .i64 z1.fst.ID,.int .i64 z1.fst.Client,.int .i64 z1.fst.Bond,.int .i64 z1.fst.Side,.int .i64 z1.fst.Qty,.int .u64 z1.fst.Dealers,.int .i64 z1.fst.Ends,.int .i64 z1.fst.Until,.int .i64 z1.fst.State,.int .i64 z1.fst.Hit]⟩,.agg ⟨[.int .i64 z2.fst.ID,.int .i64 z2.fst.Ask,.int .i64 z2.fst.Dealer,.int .i64 z2.fst.Price,.int .i64 z2.fst.Expires,.bool z2.fst.Live]⟩] (cI IntKind.i64) h3 λ(n2:Int) h6=>ZB (n2 != 0) (Q n2 h6) (ZR p0 λa6=>ZC cP ⟨a6.block,a6.off+6,none⟩ h6 λ(p4:Option Addr)=>ZA TP 216 [.pointer p4,.int .i64 z2.fst.Dealer,.int .i64 z2.fst.Price,.int .i64 z1.fst.Qty] (cI IntKind.i64) h6 λ(n3:Int) h7=>ZB (n3 != 0) (Q n3 h7) (ZR p0 λa7=>ZC cP ⟨a7.block,a7.off+8,none⟩ h7 λ(p5:Option Addr)=>ZA TP 143 [.pointer p5,.int .i64 z1.fst.ID,.int .i64 3] (cI IntKind.i64) h7 λ(n4:Int) h8=>ZA TP 144 [.pointer p0,.int .i64 z1.fst.ID] (ZW []) h8 λu2 h9=>ZM (Obj.cells ⟨[.int .i64 z1.fst.ID,.int .i64 z2.fst.Price]⟩ 2) h9 λk1 h10=>ZA TP 86 [.pointer p1,.int .i64 z1.fst.Client,.int .i64 26,.slice (some ⟨k1,0,none⟩) 2 2] (ZW []) h10 λu3 h11=>ZA TP 217 [.pointer p0,.pointer p1,.int .i64 z1.fst.Side,.int .i64 z1.fst.Client,.int .i64 z2.fst.Dealer,.agg ⟨[.int .i64 0,.int .i64 z1.fst.Bond,.int .i64 0,.int .i64 0,.int .i64 z2.fst.Price,.int .i64 z1.fst.Qty,.int .i64 z1.fst.ID,.int .i64 0]⟩] (ZW []) h11 λu4 h12=>Q 0 h12)))))))
theorem c134 {p0 p1 p2 h Q} (hk:F134 p0 p1 p2 h Q):ZA TP 134 [.pointer p0,.pointer p1,ZAn.enc p2] (cI .i64) h Q:=cc a134 n134 hk
def a135:Ann:=mkA 128 [] 0 (bc [(7,ZAb)])
def n135:An:=(s0 (s0 (sq (s0 (cn (s0 r0) lf)) (s0 lf))))
def F135 (p0:Option Addr) (p1:Option Addr) (p2:Int) (h:Hp) (Q:Int->Hp->Prop):Prop:=ZA TP 211 [.pointer p0,.pointer p1,.int .i64 p2] (ZW [ZAb,cI IntKind.i64]) h λ(z1:Ask×Int) h1=>ZB (z1.snd==0) (ZR p1 λa1=>ZV (cI IntKind.i64) ⟨a1.block,a1.off+1,none⟩ p2 h1 λh2=>ZA TP 84 [.pointer p0,.pointer p1,.agg ⟨[.int .i64 z1.fst.ID,.int .i64 z1.fst.Client,.int .i64 z1.fst.Bond,.int .i64 z1.fst.Side,.int .i64 z1.fst.Qty,.int .u64 z1.fst.Dealers,.int .i64 z1.fst.Ends,.int .i64 z1.fst.Until,.int .i64 z1.fst.State,.int .i64 z1.fst.Hit]⟩] (ZW []) h2 λu1 h3=>Q z1.snd h3) (Q z1.snd h1)
theorem c135 {p0 p1 p2 h Q} (hk:F135 p0 p1 p2 h Q):ZA TP 135 [.pointer p0,.pointer p1,.int .i64 p2] (cI .i64) h Q:=cc a135 n135 hk
def a136:Ann:=mkA 16416 [(17,5),(18,5),(20,5),(21,5),(23,5),(24,5),(26,5),(27,5),(30,5),(31,5),(128,14),(130,14),(150,14),(155,14)] 0 (bc [(5,ZAn),(14,ZAb)])
def n136:An:=(s0 (sq (rg [0,1,2,3,4,5,6,7,8,9,10,11,12,13,14,15,16,17,18,19,20]) (sq (bk (s0 (cn (s0 lf) (s0 (cn (s0 lf) (s0 (cn (s0 lf) lf))))))) (sq (s0 (s0 (cn (s0 lf) lf))) (sq (sq (rg [0,1,2,4,5,6,8,3,7,9,10]) (s0 (cn (s0 lf) lf))) (sq (s0 (cn (s0 lf) lf)) (sq (rg [0,1,2,5,6,7,9,10,11,12,13,14,15,17,20,3,4,8,16,18,19,21]) (sq (sq (rg [0,1,2,4,3,5,6]) (s0 (cn (s0 lf) lf))) (s0 (s0 (sq (rg [0,1,2,4,5,6,7,8,3,9]) (sq (s0 (bk (.loop [(140,false,cI .i64)] 1461500243534328010039738486733890979133338484736 (s0 (sq (cn lf lf) (sq (.blockJ [] 730745243479151826446057032428573347737589841920 (s0 (s0 (cn r0 lf)))) r0)))))) (s0 lf)))))))))))))
def F136 (p0:Option Addr) (p1:Option Addr) (p2:Msg) (h:Hp) (Q:Int->Hp->Prop):Prop:=atP 6 0 (atP 6 1 (atP 6 2 (atP 6 3 (atP 6 4 (ZA TP 56 [.pointer p0,.int .i64 p2.F_0] cB h λ(t1:Bool) h1=>ZB (!t1) (Q 4 h1) (ZA TP 218 [.int .i64 p2.F_1] cB h1 λ(t2:Bool) h2=>ZB (!t2) (Q 1 h2) (ZR p0 λa1=>ZC cSl ((a1.add 0).add 0) h2 λ(s1:Sl)=>Zl s1.a s1.len p2.F_0 λa2=>ZC cB ⟨(a2.add (p2.F_0.toNat*7)).block,(a2.add (p2.F_0.toNat*7)).off+6,none⟩ h2 λ(t3:Bool)=>ZB t3 (Q 6 h2) (ZR p0 λa3=>ZC cSl ((a3.add 0).add 0) h2 λ(s2:Sl)=>Zl s2.a s2.len p2.F_0 λa4=>ZC ZAB (a4.add (p2.F_0.toNat*7)) h2 λ(x1:Bond)=>ZA TP 219 [.agg ⟨[.int .i64 x1.Tick,.int .i64 x1.Lot,.int .i64 x1.Min,.int .i64 x1.Max,.int .i64 x1.Low,.int .i64 x1.High,.bool x1.Halted]⟩,.int .i64 p2.F_2] (cI IntKind.i64) h2 λ(n1:Int) h3=>ZB (n1 != 0) (Q n1 h3) (ZR p0 λa5=>ZR p1 λa6=>ZC cP ⟨a5.block,a5.off+6,none⟩ h3 λ(p1_1:Option Addr)=>ZC (cI IntKind.i64) (a6.add 0) h3 λ(n2:Int)=>ZA TP 220 [.pointer p1_1,.int .i64 n2,.int .u64 (IntKind.u64.wrap p2.F_3)] (cI IntKind.i64) h3 λ(n3:Int) h4=>ZB (n3 != 0) (Q n3 h4) (ZA TP 207 [.int .i64 p2.F_4] cB h4 λ(t4:Bool) h5=>ZB (!t4) (Q 1 h5) (ZR p0 λa7=>ZR p1 λa8=>ZR p0 λa9=>ZC (cI IntKind.i64) ⟨a7.block,a7.off+15,none⟩ h5 λ(n4:Int)=>ZC (cI IntKind.i64) (a8.add 0) h5 λ(n5:Int)=>ZC (cI IntKind.i64) ⟨a9.block,a9.off+4,none⟩ h5 λ(n6:Int)=>ZR p0 λa10=>ZC cP ⟨a10.block,a10.off+8,none⟩ h5 λ(p2_1:Option Addr)=>ZA TP 221 [.pointer p2_1,.agg ⟨[.int .i64 (IntKind.i64.wrap (n4+1)),.int .i64 n5,.int .i64 p2.F_0,.int .i64 p2.F_1,.int .i64 p2.F_2,.int .u64 (IntKind.u64.wrap p2.F_3),.int .i64 (IntKind.i64.wrap (n6+p2.F_4)),.int .i64 0,.int .i64 1,.int .i64 0]⟩] (cI IntKind.i64) h5 λ(n7:Int) h6=>ZB (n7 != 0) (Q n7 h6) (ZR p0 λa11=>ZC (cI IntKind.i64) ⟨a11.block,a11.off+15,none⟩ h6 λ(n8:Int)=>ZR p0 λa12=>ZV (cI IntKind.i64) ⟨a12.block,a12.off+15,none⟩ (IntKind.i64.wrap (n8+1)) h6 λh7=>ZR p0 λa13=>ZC (cI IntKind.i64) ⟨a13.block,a13.off+15,none⟩ h7 λ(n9:Int)=>ZR p1 λa14=>ZV (cI IntKind.i64) ⟨a14.block,a14.off+1,none⟩ n9 h7 λh8=>ZR p0 λa15=>ZC cP ⟨a15.block,a15.off+9,none⟩ h8 λ(p3:Option Addr)=>ZA TP 209 [.pointer p3,.agg ⟨[.int .i64 (IntKind.i64.wrap (n6+p2.F_4)),.int .i64 1,.int .i64 (IntKind.i64.wrap (n4+1))]⟩] cB h8 λ(t5:Bool) h9=>ZR p0 λa16=>ZC cSl ⟨(a16.add 0).block,(a16.add 0).off+1,none⟩ h9 λ(s3:Sl)=>Zj 0 h9 λ(J1:Int->Hp->Prop) (n10:Int) h10=>ZB (decide (n10<(↑s3.len:Int))) (ZY (λu1 h11=>J1 (IntKind.i64.wrap (n10+1)) h11) λ(J2:PUnit->Hp->Prop)=>0<=n10/\ZB (ZDH IntKind.u64 (ZBT IntKind.u64 (IntKind.u64.wrap p2.F_3) n10) (1:Int)==1) (ZM (Obj.cells ⟨[.int .i64 (IntKind.i64.wrap (n4+1)),.int .i64 p2.F_0,.int .i64 p2.F_1,.int .i64 p2.F_2,.int .i64 (IntKind.i64.wrap (n6+p2.F_4))]⟩ 2) h10 λk1 h12=>ZA TP 86 [.pointer p1,.int .i64 n10,.int .i64 22,.slice (some ⟨k1,0,none⟩) 5 5] (ZW []) h12 λu2 h13=>J2 PUnit.unit h13) (J2 PUnit.unit h10)) (Q 0 h10)))))))))))))
theorem c136 {p0 p1 p2 h Q} (hk:F136 p0 p1 p2 h Q):ZA TP 136 [.pointer p0,.pointer p1,ZAn.enc p2] (cI .i64) h Q:=cc a136 n136 hk
def a137:Ann:=mkA 0 [] 0 (bc [])
def n137:An:=(s0 (sq (bk (s0 (cn (s0 lf) (.join [(14,false,cB)] 2080768 r0 (cn (s0 lf) lf))))) (s0 (s0 (s0 lf)))))
def F137 (p0:Option Addr) (p1:Option Addr) (p2:Int) (p3:Int) (h:Hp) (Q:Int->Hp->Prop):Prop:=ZA TP 56 [.pointer p0,.int .i64 p2] cB h λ(t1:Bool) h1=>ZB (!t1) (Q 4 h1) (ZY (λ(t2:Bool) h2=>ZB t2 (Q 1 h2) (ZR p0 λa1=>ZC cSl ((a1.add 0).add 0) h2 λ(s1:Sl)=>Zl s1.a s1.len p2 λa2=>ZV cB ⟨(a2.add (p2.toNat*7)).block,(a2.add (p2.toNat*7)).off+6,none⟩ (p3==1) h2 λh3=>ZR p1 λa3=>ZV (cI IntKind.i64) ⟨a3.block,a3.off+1,none⟩ p2 h3 λh4=>Q 0 h4)) λ(J1:Bool->Hp->Prop)=>ZB (p3 != 0) (J1 (p3 != 1) h1) (J1 false h1))
theorem c137 {p0 p1 p2 p3 h Q} (hk:F137 p0 p1 p2 p3 h Q):ZA TP 137 [.pointer p0,.pointer p1,.int .i64 p2,.int .i64 p3] (cI .i64) h Q:=cc a137 n137 hk
def a200:Ann:=mkA 32 [(14,5),(15,5),(17,5),(18,5),(20,5),(21,5),(23,5),(24,5),(26,5),(27,5)] 0 (bc [(5,ZAn)])
def n200:An:=(s0 (sq (rg [0,1,2,3,4,5,6,7,8,9,10,11,12,13,14,15,16,17,18,19]) (sq (bk (s0 (cn (s0 lf) (.join [(34,false,cB)] 70351564308480 r0 (cn (s0 lf) lf))))) (sq (s0 (s0 (cn (s0 lf) lf))) (sq (rg [0,1,2,3,4,5,8,9,10,12,13,14,16,6,7,11,15,17,18]) (sq (s0 (cn (s0 r0) lf)) (s0 lf)))))))
def F200 (p0:Option Addr) (p1:Option Addr) (p2:Msg) (h:Hp) (Q:Int->Hp->Prop):Prop:=atP 6 0 (atP 6 1 (atP 6 2 (atP 6 3 (atP 6 4 (ZA TP 56 [.pointer p0,.int .i64 p2.F_0] cB h λ(t1:Bool) h1=>ZB (!t1) (Q 4 h1) (ZY (λ(t2:Bool) h2=>ZB t2 (Q 1 h2) (ZR p0 λa1=>ZC cSl ((a1.add 0).add 0) h2 λ(s1:Sl)=>Zl s1.a s1.len p2.F_0 λa2=>ZC ZAB (a2.add (p2.F_0.toNat*7)) h2 λ(x1:Bond)=>ZA TP 277 [.agg ⟨[.int .i64 x1.Tick,.int .i64 x1.Lot,.int .i64 x1.Min,.int .i64 x1.Max,.int .i64 x1.Low,.int .i64 x1.High,.bool x1.Halted]⟩,.int .i64 p2.F_4,.int .i64 p2.F_2,.int .i64 p2.F_3] (cI IntKind.i64) h2 λ(n1:Int) h3=>ZB (n1 != 0) (Q n1 h3) (ZR p0 λa3=>ZR p1 λa4=>ZC (cI IntKind.i64) ⟨a3.block,a3.off+12,none⟩ h3 λ(n2:Int)=>ZC (cI IntKind.i64) (a4.add 0) h3 λ(n3:Int)=>ZA TP 278 [.pointer p0,.pointer p1,.int .i64 p2.F_0,.agg ⟨[.int .i64 (IntKind.i64.wrap (n2+1)),.int .i64 0,.int .i64 n3,.int .i64 p2.F_1,.int .i64 p2.F_2,.int .i64 p2.F_3]⟩,.int .i64 p2.F_4] (cI IntKind.i64) h3 λ(n4:Int) h4=>ZB (n4==0) (ZR p0 λa5=>ZC (cI IntKind.i64) ⟨a5.block,a5.off+12,none⟩ h4 λ(n5:Int)=>ZR p0 λa6=>ZV (cI IntKind.i64) ⟨a6.block,a6.off+12,none⟩ (IntKind.i64.wrap (n5+1)) h4 λh5=>ZR p0 λa7=>ZC (cI IntKind.i64) ⟨a7.block,a7.off+12,none⟩ h5 λ(n6:Int)=>ZR p1 λa8=>ZV (cI IntKind.i64) ⟨a8.block,a8.off+1,none⟩ n6 h5 λh6=>Q n4 h6) (Q n4 h4)))) λ(J1:Bool->Hp->Prop)=>ZA TP 218 [.int .i64 p2.F_1] cB h1 λ(t3:Bool) h7=>ZB (!t3) (J1 true h7) (ZB (decide (p2.F_4<0)) (J1 true h7) (J1 (decide (p2.F_4>4)) h7))))))))
theorem c200 {p0 p1 p2 h Q} (hk:F200 p0 p1 p2 h Q):ZA TP 200 [.pointer p0,.pointer p1,ZAn.enc p2] (cI .i64) h Q:=cc a200 n200 hk
def a204:Ann:=mkA 512 [(29,9),(34,9),(45,9),(56,9),(61,9),(62,9)] 0 (bc [(9,ZK)])
def n204:An:=(s0 (sq (s0 (s0 (cn (s0 lf) lf))) (sq (.join [(37,false,cB)] 274609471488 r0 (cn (sq (rg [0,1,2,4,7,8,9,3,5,6,10,11]) lf) lf)) (sq (rg [0,1,2,4,7,8,3,5,6,9]) (s0 (s0 lf))))))
def F204 (p0:Option Addr) (p1:Option Addr) (p2:Int) (p3:ZE) (p4:Int) (p5:Int) (h:Hp) (Q:Int->Hp->Prop):Prop:=ZR p0 λa1=>ZC cSl ((a1.add 0).add 0) h λ(s1:Sl)=>Zl s1.a s1.len p2 λa2=>ZC ZAB (a2.add (p2.toNat*7)) h λ(x1:Bond)=>ZA TP 279 [.agg ⟨[.int .i64 x1.Tick,.int .i64 x1.Lot,.int .i64 x1.Min,.int .i64 x1.Max,.int .i64 x1.Low,.int .i64 x1.High,.bool x1.Halted]⟩,.int .i64 p4,.int .i64 p5] (cI IntKind.i64) h λ(n1:Int) h1=>ZB (n1 != 0) (Q n1 h1) (ZY (λ(t1:Bool) h2=>ZB t1 (ZR p0 λa3=>ZC cSl ⟨a3.block,a3.off+5,none⟩ h2 λ(s2:Sl)=>Zl s2.a s2.len p2 λa4=>ZC cP (a4.add (p2.toNat*1)) h2 λ(p1:Option Addr)=>ZA TP 280 [.pointer p1,.int .i64 p3.ID,.int .i64 p5] (cI IntKind.i64) h2 λ(n2:Int) h3=>Q n2 h3) (ZR p0 λa5=>ZC cSl ⟨a5.block,a5.off+5,none⟩ h2 λ(s3:Sl)=>Zl s3.a s3.len p2 λa6=>ZC cP (a6.add (p2.toNat*1)) h2 λ(p2_1:Option Addr)=>ZA TP 85 [.pointer p2_1,.int .i64 p3.ID] (ZW [ZK,cB]) h2 λ(z1:ZE×Bool) h4=>ZA TP 278 [.pointer p0,.pointer p1,.int .i64 p2,.agg ⟨[.int .i64 p3.ID,.int .i64 p3.Seq,.int .i64 p3.Owner,.int .i64 p3.Side,.int .i64 p4,.int .i64 p5]⟩,.int .i64 0] (cI IntKind.i64) h4 λ(n3:Int) h5=>Q n3 h5)) λ(J1:Bool->Hp->Prop)=>ZB (p4==p3.Price) (J1 (decide (p5<=p3.Left)) h1) (J1 false h1))
theorem c204 {p0 p1 p2 p3 p4 p5 h Q} (hk:F204 p0 p1 p2 p3 p4 p5 h Q):ZA TP 204 [.pointer p0,.pointer p1,.int .i64 p2,ZK.enc p3,.int .i64 p4,.int .i64 p5] (cI .i64) h Q:=cc a204 n204 hk
def a205:Ann:=mkA 128 [(22,7)] 0 (bc [(7,ZS)])
def n205:An:=(s0 (s0 (sq (bk (s0 (cn (s0 lf) (sq (rg [0,1,2,3,4,5,6,7]) (cn (s0 lf) (s0 (cn (s0 lf) lf))))))) (s0 (sq (rg [0,1,2,4,5,6,7,3,8,9,10]) lf)))))
def F205 (p0:Option Addr) (p1:Option Addr) (p2:Int) (h:Hp) (Q:Int->Hp->Prop):Prop:=ZR p0 λa1=>ZC cP ⟨a1.block,a1.off+7,none⟩ h λ(p1_1:Option Addr)=>ZA TP 210 [.pointer p1_1,.int .i64 p2] (ZW [ZS,cB]) h λ(z1:Za×Bool) h1=>ZB (!z1.snd) (Q 4 h1) (ZR p1 λa2=>ZC (cI IntKind.i64) (a2.add 0) h1 λ(n1:Int)=>ZB (z1.fst.Dealer != n1) (Q 5 h1) (ZA TP 88 [.pointer p0,.agg ⟨[.int .i64 z1.fst.ID,.int .i64 z1.fst.Ask,.int .i64 z1.fst.Dealer,.int .i64 z1.fst.Price,.int .i64 z1.fst.Expires,.bool z1.fst.Live]⟩] cB h1 λ(t1:Bool) h2=>ZB t1 (Q 11 h2) (ZR p1 λa3=>ZV (cI IntKind.i64) ⟨a3.block,a3.off+1,none⟩ p2 h2 λh3=>ZR p0 λa4=>ZR p1 λa5=>ZC cP ⟨a4.block,a4.off+7,none⟩ h3 λ(p2_1:Option Addr)=>ZC (cI IntKind.i64) (a5.add 0) h3 λ(n2:Int)=>ZA TP 281 [.pointer p2_1,.int .i64 p2,.int .i64 n2] (cI IntKind.i64) h3 λ(n3:Int) h4=>Q n3 h4)))
theorem c205 {p0 p1 p2 h Q} (hk:F205 p0 p1 p2 h Q):ZA TP 205 [.pointer p0,.pointer p1,.int .i64 p2] (cI .i64) h Q:=cc a205 n205 hk
def a211:Ann:=mkA 320 [(24,8),(33,8)] 0 (bc [(6,ZAb),(8,ZAb)])
def n211:An:=(s0 (s0 (sq (bk (s0 (cn (s0 lf) (sq (rg [0,1,2,3,4,5,6,7]) (cn (s0 lf) (s0 (cn (s0 lf) lf))))))) (s0 lf))))
def F211 (p0:Option Addr) (p1:Option Addr) (p2:Int) (h:Hp) (Q:Ask×Int->Hp->Prop):Prop:=ZR p0 λa1=>ZC cP ⟨a1.block,a1.off+8,none⟩ h λ(p1_1:Option Addr)=>ZA TP 81 [.pointer p1_1,.int .i64 p2] (ZW [ZAb,cB]) h λ(z1:Ask×Bool) h1=>ZB (!z1.snd) (Q (z1.fst,4) h1) (ZR p1 λa2=>ZC (cI IntKind.i64) (a2.add 0) h1 λ(n1:Int)=>ZB (z1.fst.Client != n1) (Q (z1.fst,5) h1) (ZB (z1.fst.State != 1) (Q (z1.fst,11) h1) (Q (z1.fst,0) h1)))
theorem c211 {p0 p1 p2 h Q} (hk:F211 p0 p1 p2 h Q):ZA TP 211 [.pointer p0,.pointer p1,.int .i64 p2] (ZW [ZAb,cI .i64]) h Q:=cc a211 n211 hk
def a212:Ann:=mkA 192 [(13,7),(17,7),(36,7),(38,7),(40,6),(60,6),(62,7),(74,6),(79,6),(84,7),(86,6),(88,7)] 0 (bc [(6,ZAb),(7,ZS)])
def n212:An:=(s0 (sq (.join [(24,false,cB)] 33546240 (rg [0,1,2,3,4,5,6,7,8,9,10,11]) (cn (s0 lf) lf)) (sq (s0 (s0 (cn (s0 lf) lf))) (sq (sq (rg [0,1,2,4,5,6,7,8,9,3,10,11]) (s0 (cn (s0 lf) lf))) (sq (rg [0,1,2,4,5,6,7,3,8,9,10]) (sq (sq (rg [0,1,2,4,5,6,7,8,3,9,10]) (s0 (cn (s0 lf) lf))) (sq (rg [0,1,2,4,5,6,7,3,8]) (s0 (s0 (s0 lf))))))))))
def F212 (p0:Option Addr) (p1:Option Addr) (p2:Ask) (p3:Za) (h:Hp) (Q:Int->Hp->Prop):Prop:=ZY (λ(t1:Bool) h1=>ZB t1 (Q 12 h1) (ZA TP 215 [.pointer p0,.agg ⟨[.int .i64 p2.ID,.int .i64 p2.Client,.int .i64 p2.Bond,.int .i64 p2.Side,.int .i64 p2.Qty,.int .u64 p2.Dealers,.int .i64 p2.Ends,.int .i64 p2.Until,.int .i64 p2.State,.int .i64 p2.Hit]⟩,.agg ⟨[.int .i64 p3.ID,.int .i64 p3.Ask,.int .i64 p3.Dealer,.int .i64 p3.Price,.int .i64 p3.Expires,.bool p3.Live]⟩] (cI IntKind.i64) h1 λ(n1:Int) h2=>ZB (n1 != 0) (Q n1 h2) (ZR p0 λa1=>ZC cP ⟨a1.block,a1.off+6,none⟩ h2 λ(p1_1:Option Addr)=>ZA TP 286 [.pointer p1_1,.int .i64 p3.Dealer,.int .i64 p3.Price,.int .i64 p2.Qty] (cI IntKind.i64) h2 λ(n2:Int) h3=>ZB (n2 != 0) (Q n2 h3) (ZR p0 λa2=>ZR p0 λa3=>ZC (cI IntKind.i64) ⟨a2.block,a2.off+4,none⟩ h3 λ(n3:Int)=>ZC (cI IntKind.i64) ⟨(a3.add 0).block,(a3.add 0).off+2,none⟩ h3 λ(n4:Int)=>ZR p0 λa4=>ZC cP ⟨a4.block,a4.off+8,none⟩ h3 λ(p2_1:Option Addr)=>ZA TP 287 [.pointer p2_1,.int .i64 p2.ID,.int .i64 p3.ID,.int .i64 (IntKind.i64.wrap (n3+n4))] (cI IntKind.i64) h3 λ(n5:Int) h4=>ZB (n5 != 0) (Q n5 h4) (ZR p0 λa5=>ZC cP ⟨a5.block,a5.off+9,none⟩ h4 λ(p3_1:Option Addr)=>ZA TP 209 [.pointer p3_1,.agg ⟨[.int .i64 (IntKind.i64.wrap (n3+n4)),.int .i64 2,.int .i64 p2.ID]⟩] cB h4 λ(t2:Bool) h5=>ZR p1 λa6=>ZV (cI IntKind.i64) ⟨a6.block,a6.off+1,none⟩ p2.ID h5 λh6=>ZM (Obj.cells ⟨[.int .i64 p2.ID,.int .i64 p3.ID,.int .i64 (IntKind.i64.wrap (n3+n4))]⟩ 2) h6 λk1 h7=>ZA TP 86 [.pointer p1,.int .i64 p3.Dealer,.int .i64 24,.slice (some ⟨k1,0,none⟩) 3 3] (ZW []) h7 λu1 h8=>Q 0 h8))))) λ(J1:Bool->Hp->Prop)=>ZB (!p3.Live) (J1 true h) (ZR p0 λa7=>ZC (cI IntKind.i64) ⟨a7.block,a7.off+4,none⟩ h λ(n6:Int)=>J1 (decide (p3.Expires<=n6)) h)
theorem c212 {p0 p1 p2 p3 h Q} (hk:F212 p0 p1 p2 p3 h Q):ZA TP 212 [.pointer p0,.pointer p1,ZAb.enc p2,ZS.enc p3] (cI .i64) h Q:=cc a212 n212 hk
def a215:Ann:=mkA 48 [(12,4),(21,4),(25,4),(27,5),(29,4)] 0 (bc [(4,ZAb),(5,ZS)])
def n215:An:=(s0 (sq (sq (rg [0,1,2,3,5,6,4,7,8,9]) (cn (s0 lf) lf)) (sq (rg [0,1,2,4,5,8,9,10,11,12,13,3,6,7,14,15]) lf)))
def F215 (p0:Option Addr) (p1:Ask) (p2:Za) (h:Hp) (Q:Int->Hp->Prop):Prop:=ZR p0 λa1=>ZC cSl ((a1.add 0).add 0) h λ(s1:Sl)=>Zl s1.a s1.len p1.Bond λa2=>ZC cB ⟨(a2.add (p1.Bond.toNat*7)).block,(a2.add (p1.Bond.toNat*7)).off+6,none⟩ h λ(t1:Bool)=>ZB t1 (Q 6 h) (ZR p0 λa3=>ZC cSl ⟨a3.block,a3.off+5,none⟩ h λ(s2:Sl)=>Zl s2.a s2.len p1.Bond λa4=>ZC cP (a4.add (p1.Bond.toNat*1)) h λ(p1_1:Option Addr)=>ZA TP 290 [.pointer p1_1,.int .i64 p1.Side,.int .i64 p2.Price,.int .i64 p1.Qty] (cI IntKind.i64) h λ(n1:Int) h1=>Q n1 h1)
theorem c215 {p0 p1 p2 h Q} (hk:F215 p0 p1 p2 h Q):ZA TP 215 [.pointer p0,ZAb.enc p1,ZS.enc p2] (cI .i64) h Q:=cc a215 n215 hk
def a217:Ann:=mkA 2048 [(18,11),(19,11),(20,11),(25,11),(26,11)] 0 (bc [(11,Z4)])
def n217:An:=(s0 (sq (rg [0,1,2,3,4,6,7,8,9,5,10,11]) (.join [(11,true,Z4)] 132122624 (s0 (cn r0 lf)) (sq (rg [0,1,2,4,3,5]) (.reg [(0,[]),(1,[]),(2,[]),(3,[]),(5,[]),(6,[]),(7,[]),(9,[]),(4,[]),(8,[]),(10,[4]),(11,[4]),(12,[]),(13,[]),(14,[]),(15,[])])))))
def F217 (p0:Option Addr) (p1:Option Addr) (p2:Int) (p3:Int) (p4:Int) (p5:ZAr) (h:Hp) (Q:Unit->Hp->Prop):Prop:=ZR p0 λa1=>ZC (cI IntKind.i64) ⟨a1.block,a1.off+4,none⟩ h λ(n1:Int)=>ZY (λ(x1:ZAr) h1=>ZR p0 λa2=>ZC cP ⟨a2.block,a2.off+10,none⟩ h1 λ(p1_1:Option Addr)=>ZA TP 292 [.pointer p1_1,.agg ⟨[.int .i64 x1.ID,.int .i64 x1.Bond,.int .i64 x1.Buyer,.int .i64 x1.Seller,.int .i64 x1.Price,.int .i64 x1.Qty,.int .i64 x1.Ask,.int .i64 x1.Tick]⟩] (cI IntKind.i64) h1 λ(n2:Int) h2=>ZR p1 λa3=>ZR p0 λa4=>ZC cSl ⟨a3.block,a3.off+2,none⟩ h2 λ(s1:Sl)=>ZC cP ⟨a4.block,a4.off+11,none⟩ h2 λ(p2:Option Addr)=>ZA TP 294 [.pointer p2,.agg ⟨[.int .i64 x1.ID,.int .i64 x1.Bond,.int .i64 x1.Buyer,.int .i64 x1.Seller,.int .i64 x1.Price,.int .i64 x1.Qty,.int .i64 x1.Ask,.int .i64 x1.Tick]⟩] Z4 h2 λ(x2:ZAr) h3=>(h3.rds ⟨a3.block,a3.off+2,none⟩ [.slice s1.a s1.len s1.cap]/\True)/\ZA TP 293 [.agg ⟨[.int .i64 x2.ID,.int .i64 x2.Bond,.int .i64 x2.Buyer,.int .i64 x2.Seller,.int .i64 x2.Price,.int .i64 x2.Qty,.int .i64 x2.Ask,.int .i64 x2.Tick]⟩] cSl h3 λ(s2:Sl) h4=>(h4.rds ⟨a3.block,a3.off+2,none⟩ [.slice s1.a s1.len s1.cap]/\True)/\ZX ZCJ 78 64 s1.a s1.len s1.cap s2.a s2.len h4 λ(p3:Option Addr) (k1 k2:Nat) h5=>ZR p1 λa5=>ZV cSl ⟨a5.block,a5.off+2,none⟩ ⟨p3,k1,k2⟩ h5 λh6=>Q PUnit.unit h6) λ(J1:ZAr->Hp->Prop)=>ZB (p2==2) (J1 {ID:=p5.ID,Bond:=p5.Bond,Buyer:=p4,Seller:=p3,Price:=p5.Price,Qty:=p5.Qty,Ask:=p5.Ask,Tick:=n1:ZAr} h) (J1 {ID:=p5.ID,Bond:=p5.Bond,Buyer:=p3,Seller:=p4,Price:=p5.Price,Qty:=p5.Qty,Ask:=p5.Ask,Tick:=n1:ZAr} h)
theorem c217 {p0 p1 p2 p3 p4 p5 h Q} (hk:F217 p0 p1 p2 p3 p4 p5 h Q):ZA TP 217 [.pointer p0,.pointer p1,.int .i64 p2,.int .i64 p3,.int .i64 p4,Z4.enc p5] (ZW []) h Q:=cc a217 n217 hk
def a277:Ann:=mkA 16 [(20,4)] 0 (bc [(4,ZAB)])
def n277:An:=(s0 (sq (bk (s0 (cn (s0 lf) (s0 (cn (s0 lf) (s0 (cn (s0 lf) lf))))))) (s0 lf)))
def F277 (p0:Bond) (p1:Int) (p2:Int) (p3:Int) (h:Hp) (Q:Int->Hp->Prop):Prop:=ZB (p1 != 4) (ZA TP 279 [.agg ⟨[.int .i64 p0.Tick,.int .i64 p0.Lot,.int .i64 p0.Min,.int .i64 p0.Max,.int .i64 p0.Low,.int .i64 p0.High,.bool p0.Halted]⟩,.int .i64 p2,.int .i64 p3] (cI IntKind.i64) h λ(n1:Int) h1=>Q n1 h1) (ZB (p2 != 0) (Q 1 h) (ZB p0.Halted (Q 6 h) (ZA TP 219 [.agg ⟨[.int .i64 p0.Tick,.int .i64 p0.Lot,.int .i64 p0.Min,.int .i64 p0.Max,.int .i64 p0.Low,.int .i64 p0.High,.bool p0.Halted]⟩,.int .i64 p3] (cI IntKind.i64) h λ(n2:Int) h2=>Q n2 h2)))
theorem c277 {p0 p1 p2 p3 h Q} (hk:F277 p0 p1 p2 p3 h Q):ZA TP 277 [ZAB.enc p0,.int .i64 p1,.int .i64 p2,.int .i64 p3] (cI .i64) h Q:=cc a277 n277 hk
def a278:Ann:=mkA 590080 [(25,8),(62,16),(64,16),(69,8),(78,19),(82,19),(84,19),(86,19),(88,19),(90,19),(99,8),(101,19),(103,19),(110,8),(116,19),(119,19),(121,19),(141,8)] 0 (bc [(8,ZK),(16,ZII),(19,ZDj)])
def n278:An:=(s0 (s0 (sq (rg [0,1,2,4,7,8,3,5,6,9,10,11,12,13,14,15,16,17,18]) (sq (s0 (cn (s0 lf) lf)) (s0 (sq (s0 (bk (.loop [(53,false,cI .i64)] 590286803159450976256 (s0 (sq (cn lf lf) (sq (bk (s0 (rg [0,1,2,3,5,6,7,8,4,9,10]))) r0)))))) (s0 (sq (s0 (bk (.loop [(17,false,cI .i64),(73,false,cI .i64)] 85070591730234606421110686118652280832 (s0 (sq (cn lf lf) (sq (bk (s0 (s0 (s0 (sq (rg [0,1,2,3,5,6,7,8,9,10,11,4,12,13]) (rg [0,1,2,3,4,5,6,8,9,10,11,12,13,14,15,7,16])))))) r0)))))) (sq (.join [(135,false,cB)] 87027215340030012030758055850674720079872 r0 (cn (rg [0,1,2,3,5,6,7,4,8,9]) lf)) (s0 lf))))))))))
def F278 (p0:Option Addr) (p1:Option Addr) (p2:Int) (p3:ZE) (p4:Int) (h:Hp) (Q:Int->Hp->Prop):Prop:=ZR p0 λa1=>ZC (cI IntKind.i64) ⟨a1.block,a1.off+13,none⟩ h λ(n1:Int)=>ZR p0 λa2=>ZC cSl ⟨a2.block,a2.off+5,none⟩ h λ(s1:Sl)=>Zl s1.a s1.len p2 λa3=>ZC cP (a3.add (p2.toNat*1)) h λ(p1_1:Option Addr)=>ZA TP 323 [.pointer p1_1,.agg ⟨[.int .i64 p3.ID,.int .i64 (IntKind.i64.wrap (n1+1)),.int .i64 p3.Owner,.int .i64 p3.Side,.int .i64 p3.Price,.int .i64 p3.Left]⟩,.int .i64 p4] (ZW [cSl,cSl,cI IntKind.i64,cI IntKind.i64]) h λ(z1:Sl×Sl×Int×Int) h1=>ZB (z1.snd.snd.snd != 0) (Q z1.snd.snd.snd h1) (ZR p0 λa4=>ZC (cI IntKind.i64) ⟨a4.block,a4.off+13,none⟩ h1 λ(n2:Int)=>ZR p0 λa5=>ZV (cI IntKind.i64) ⟨a5.block,a5.off+13,none⟩ (IntKind.i64.wrap (n2+1)) h1 λh2=>Zj 0 h2 λ(J1:Int->Hp->Prop) (n3:Int) h3=>ZB (decide (n3<(↑z1.snd.fst.len:Int))) (Zl z1.snd.fst.a z1.snd.fst.len n3 λa6=>ZC ZII (a6.add (n3.toNat*3)) h3 λ(x1:ZOs)=>ZR p1 λa7=>ZC (cI IntKind.i64) (a7.add 0) h3 λ(n4:Int)=>ZM (Obj.cells ⟨[.int .i64 x1.ID,.int .i64 x1.Left]⟩ 2) h3 λk1 h4=>ZA TP 86 [.pointer p1,.int .i64 n4,.int .i64 21,.slice (some ⟨k1,0,none⟩) 2 2] (ZW []) h4 λu1 h5=>J1 (IntKind.i64.wrap (n3+1)) h5) (Zj (p3.Left,0) h3 λ(J2:Int×Int->Hp->Prop) (z2:Int×Int) h6=>ZB (decide (z2.snd<(↑z1.fst.len:Int))) (Zl z1.fst.a z1.fst.len z2.snd λa8=>ZC ZDj (a8.add (z2.snd.toNat*7)) h6 λ(x2:ZH5)=>ZM (Obj.cells ⟨[.int .i64 x2.Maker,.int .i64 x2.Price,.int .i64 x2.Qty,.int .i64 x2.Left]⟩ 2) h6 λk2 h7=>ZA TP 86 [.pointer p1,.int .i64 x2.MakerParty,.int .i64 20,.slice (some ⟨k2,0,none⟩) 4 4] (ZW []) h7 λu2 h8=>ZR p1 λa9=>ZC (cI IntKind.i64) (a9.add 0) h8 λ(n5:Int)=>ZM (Obj.cells ⟨[.int .i64 p3.ID,.int .i64 x2.Price,.int .i64 x2.Qty,.int .i64 (IntKind.i64.wrap (z2.fst-x2.Qty))]⟩ 2) h8 λk3 h9=>ZA TP 86 [.pointer p1,.int .i64 n5,.int .i64 20,.slice (some ⟨k3,0,none⟩) 4 4] (ZW []) h9 λu3 h10=>ZR p1 λa10=>ZC (cI IntKind.i64) (a10.add 0) h10 λ(n6:Int)=>ZA TP 217 [.pointer p0,.pointer p1,.int .i64 p3.Side,.int .i64 n6,.int .i64 x2.MakerParty,.agg ⟨[.int .i64 0,.int .i64 p2,.int .i64 0,.int .i64 0,.int .i64 x2.Price,.int .i64 x2.Qty,.int .i64 0,.int .i64 0]⟩] (ZW []) h10 λu4 h11=>J2 (IntKind.i64.wrap (z2.fst-x2.Qty),IntKind.i64.wrap (z2.snd+1)) h11) (ZY (λ(t1:Bool) h12=>ZB t1 (ZR p1 λa11=>ZC (cI IntKind.i64) (a11.add 0) h12 λ(n7:Int)=>ZM (Obj.cells ⟨[.int .i64 p3.ID,.int .i64 z1.snd.snd.fst]⟩ 2) h12 λk4 h13=>ZA TP 86 [.pointer p1,.int .i64 n7,.int .i64 21,.slice (some ⟨k4,0,none⟩) 2 2] (ZW []) h13 λu5 h14=>Q 0 h14) (Q 0 h12)) λ(J3:Bool->Hp->Prop)=>ZB (p4 != 0) (ZB (p4 != 3) (J3 (decide (z1.snd.snd.fst>0)) h6) (J3 false h6)) (J3 false h6))))
theorem c278 {p0 p1 p2 p3 p4 h Q} (hk:F278 p0 p1 p2 p3 p4 h Q):ZA TP 278 [.pointer p0,.pointer p1,.int .i64 p2,ZK.enc p3,.int .i64 p4] (cI .i64) h Q:=cc a278 n278 hk
end Go.Proofs.YtkmniidiifpdgaaGreat
