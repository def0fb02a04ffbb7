/- Types of this seat, and what is to be known of its tables: made by program (drive.py). -/
import Derived.Test.YtmkgcdgpokidjaaGreatProg
import Derived.KernelRfl
import Derived.Test.YtmkgcdgpokidjaaGreatES
set_option linter.unusedVariables false
namespace Go.Proofs.YtmkgcdgpokidjaaGreat
open Go.Eng
structure Arr6ii64 where
  e0 : Int
  e1 : Int
  e2 : Int
  e3 : Int
  e4 : Int
  e5 : Int
abbrev cArr6ii64 : Cdc := aggC Arr6ii64 [.i .i64, .i .i64, .i .i64, .i .i64, .i .i64, .i .i64] (fun x => ⟨x.1, x.2.1, x.2.2.1, x.2.2.2.1, x.2.2.2.2.1, x.2.2.2.2.2⟩) (fun s => (s.e0, s.e1, s.e2, s.e3, s.e4, s.e5)) (fun _ => rfl) (fun _ => rfl)
structure Msg where
  Kind : Int
  F_0 : Int
  F_1 : Int
  F_2 : Int
  F_3 : Int
  F_4 : Int
  F_5 : Int
abbrev cMsg : Cdc := aggC Msg [.i .i64, .i .i64, .i .i64, .i .i64, .i .i64, .i .i64, .i .i64] (fun x => ⟨x.1, x.2.1, x.2.2.1, x.2.2.2.1, x.2.2.2.2.1, x.2.2.2.2.2.1, x.2.2.2.2.2.2⟩) (fun s => (s.Kind, s.F_0, s.F_1, s.F_2, s.F_3, s.F_4, s.F_5)) (fun _ => rfl) (fun _ => rfl)
structure L24Act where
  Kind : Int
  B : Sl
  Msg_Kind : Int
  Msg_F_0 : Int
  Msg_F_1 : Int
  Msg_F_2 : Int
  Msg_F_3 : Int
  Msg_F_4 : Int
  Msg_F_5 : Int
  Many : Int
abbrev cL24Act : Cdc := aggC L24Act [.i .i64, .sl, .i .i64, .i .i64, .i .i64, .i .i64, .i .i64, .i .i64, .i .i64, .i .i64] (fun x => ⟨x.1, x.2.1, x.2.2.1, x.2.2.2.1, x.2.2.2.2.1, x.2.2.2.2.2.1, x.2.2.2.2.2.2.1, x.2.2.2.2.2.2.2.1, x.2.2.2.2.2.2.2.2.1, x.2.2.2.2.2.2.2.2.2⟩) (fun s => (s.Kind, s.B, s.Msg_Kind, s.Msg_F_0, s.Msg_F_1, s.Msg_F_2, s.Msg_F_3, s.Msg_F_4, s.Msg_F_5, s.Many)) (fun _ => rfl) (fun _ => rfl)
structure R24Line where
  F : Option Addr
  S : Option Addr
  B : Option Addr
abbrev cR24Line : Cdc := aggC R24Line [.p, .p, .p] (fun x => ⟨x.1, x.2.1, x.2.2⟩) (fun s => (s.F, s.S, s.B)) (fun _ => rfl) (fun _ => rfl)
structure R10Sess where
  beat : Int
  Up : Bool
  Want : Int
  K : Option Addr
  sent : Int
  heard : Int
  asked : Int
abbrev cR10Sess : Cdc := aggC R10Sess [.i .i64, .b, .i .i64, .p, .i .i64, .i .i64, .i .i64] (fun x => ⟨x.1, x.2.1, x.2.2.1, x.2.2.2.1, x.2.2.2.2.1, x.2.2.2.2.2.1, x.2.2.2.2.2.2⟩) (fun s => (s.beat, s.Up, s.Want, s.K, s.sent, s.heard, s.asked)) (fun _ => rfl) (fun _ => rfl)
structure LineLine where
  flow : Option Addr
  sess : Option Addr
  box : Option Addr
abbrev cLineLine : Cdc := aggC LineLine [.p, .p, .p] (fun x => ⟨x.1, x.2.1, x.2.2⟩) (fun s => (s.flow, s.sess, s.box)) (fun _ => rfl) (fun _ => rfl)
structure R7Flow where
  B : Sl
  Lost : Int
abbrev cR7Flow : Cdc := aggC R7Flow [.sl, .i .i64] (fun x => ⟨x.1, x.2⟩) (fun s => (s.B, s.Lost)) (fun _ => rfl) (fun _ => rfl)
structure Frame where
  Seq : Int
  Msg_Kind : Int
  Msg_F_0 : Int
  Msg_F_1 : Int
  Msg_F_2 : Int
  Msg_F_3 : Int
  Msg_F_4 : Int
  Msg_F_5 : Int
abbrev cFrame : Cdc := aggC Frame [.i .i64, .i .i64, .i .i64, .i .i64, .i .i64, .i .i64, .i .i64, .i .i64] (fun x => ⟨x.1, x.2.1, x.2.2.1, x.2.2.2.1, x.2.2.2.2.1, x.2.2.2.2.2.1, x.2.2.2.2.2.2.1, x.2.2.2.2.2.2.2⟩) (fun s => (s.Seq, s.Msg_Kind, s.Msg_F_0, s.Msg_F_1, s.Msg_F_2, s.Msg_F_3, s.Msg_F_4, s.Msg_F_5)) (fun _ => rfl) (fun _ => rfl)
structure SessSess where
  beat : Int
  up : Bool
  want : Int
  keep : Option Addr
  asked : Int
  sent : Int
  heard : Int
abbrev cSessSess : Cdc := aggC SessSess [.i .i64, .b, .i .i64, .p, .i .i64, .i .i64, .i .i64] (fun x => ⟨x.1, x.2.1, x.2.2.1, x.2.2.2.1, x.2.2.2.2.1, x.2.2.2.2.2.1, x.2.2.2.2.2.2⟩) (fun s => (s.beat, s.up, s.want, s.keep, s.asked, s.sent, s.heard)) (fun _ => rfl) (fun _ => rfl)
structure FlowFlow where
  b : Sl
  lost : Int
abbrev cFlowFlow : Cdc := aggC FlowFlow [.sl, .i .i64] (fun x => ⟨x.1, x.2⟩) (fun s => (s.b, s.lost)) (fun _ => rfl) (fun _ => rfl)
structure MailBox where
  c : Option Nat
  shut : Bool
abbrev cMailBox : Cdc := aggC MailBox [.c, .b] (fun x => ⟨x.1, x.2⟩) (fun s => (s.c, s.shut)) (fun _ => rfl) (fun _ => rfl)
structure R9Keep where
  L : Sl
abbrev cR9Keep : Cdc := aggC R9Keep [.sl] (fun x => ⟨x⟩) (fun s => s.L) (fun _ => rfl) (fun _ => rfl)
structure R8Box where
  L : Sl
  N : Int
  Shut : Bool
abbrev cR8Box : Cdc := aggC R8Box [.sl, .i .i64, .b] (fun x => ⟨x.1, x.2.1, x.2.2⟩) (fun s => (s.L, s.N, s.Shut)) (fun _ => rfl) (fun _ => rfl)
structure Msgnone where
abbrev cMsgnone : Cdc := aggC Msgnone [] (fun _ => {}) (fun _ => ()) (fun _ => rfl) (fun _ => rfl)
structure KeepKeep where
  l : Sl
  next : Int
abbrev cKeepKeep : Cdc := aggC KeepKeep [.sl, .i .i64] (fun x => ⟨x.1, x.2⟩) (fun s => (s.l, s.next)) (fun _ => rfl) (fun _ => rfl)
structure Packshort where
abbrev cPackshort : Cdc := aggC Packshort [] (fun _ => {}) (fun _ => ()) (fun _ => rfl) (fun _ => rfl)
def cdcs : TypeId → Option Cdc
  | 1 => some (cF)
  | 2 => some (cI .i64)
  | 3 => some (cI .i64)
  | 4 => some (cB)
  | 5 => some (cI .u8)
  | 6 => some (cI .u8)
  | 9 => some (cS)
  | 10 => some (cS)
  | 11 => some (cS)
  | 12 => some (cI .u64)
  | 15 => some (cP)
  | 16 => some (cP)
  | 17 => some (cP)
  | 21 => some (cI .i32)
  | 22 => some (cSl)
  | 23 => some (cP)
  | 24 => some (cF)
  | 25 => some (cP)
  | 26 => some (cF)
  | 27 => some (cSl)
  | 28 => some (cArr6ii64)
  | 29 => some (cMsg)
  | 30 => some (cMsg)
  | 31 => some (cL24Act)
  | 32 => some (cL24Act)
  | 33 => some (cSl)
  | 35 => some (cF)
  | 36 => some (cF)
  | 37 => some (cF)
  | 38 => some (cF)
  | 39 => some (cP)
  | 40 => some (cP)
  | 41 => some (cP)
  | 42 => some (cR24Line)
  | 43 => some (cR24Line)
  | 44 => some (cF)
  | 45 => some (cSl)
  | 46 => some (cF)
  | 47 => some (cP)
  | 48 => some (cR10Sess)
  | 49 => some (cR10Sess)
  | 50 => some (cF)
  | 51 => some (cP)
  | 52 => some (cF)
  | 53 => some (cP)
  | 54 => some (cF)
  | 55 => some (cP)
  | 56 => some (cF)
  | 57 => some (cLineLine)
  | 58 => some (cLineLine)
  | 59 => some (cF)
  | 60 => some (cR7Flow)
  | 61 => some (cR7Flow)
  | 62 => some (cF)
  | 63 => some (cF)
  | 64 => some (cFrame)
  | 65 => some (cFrame)
  | 66 => some (cI .i64)
  | 68 => some (cF)
  | 70 => some (cF)
  | 71 => some (cF)
  | 73 => some (cF)
  | 74 => some (cF)
  | 76 => some (cF)
  | 77 => some (cF)
  | 79 => some (cF)
  | 80 => some (cF)
  | 81 => some (cF)
  | 82 => some (cF)
  | 83 => some (cP)
  | 84 => some (cF)
  | 85 => some (cSessSess)
  | 86 => some (cSessSess)
  | 87 => some (cFlowFlow)
  | 88 => some (cFlowFlow)
  | 89 => some (cC)
  | 90 => some (cMailBox)
  | 91 => some (cMailBox)
  | 92 => some (cR9Keep)
  | 93 => some (cR9Keep)
  | 94 => some (cR8Box)
  | 95 => some (cR8Box)
  | 96 => some (cF)
  | 98 => some (cF)
  | 99 => some (cMsgnone)
  | 100 => some (cMsgnone)
  | 103 => some (cF)
  | 104 => some (cF)
  | 105 => some (cSl)
  | 107 => some (cF)
  | 108 => some (cF)
  | 110 => some (cF)
  | 111 => some (cF)
  | 112 => some (cF)
  | 114 => some (cF)
  | 116 => some (cF)
  | 117 => some (cF)
  | 118 => some (cF)
  | 119 => some (cF)
  | 120 => some (cF)
  | 121 => some (cF)
  | 122 => some (cKeepKeep)
  | 123 => some (cKeepKeep)
  | 124 => some (cF)
  | 125 => some (cF)
  | 126 => some (cI .u32)
  | 127 => some (cF)
  | 128 => some (cF)
  | 129 => some (cPackshort)
  | 131 => some (cF)
  | 132 => some (cF)
  | 133 => some (cF)
  | 134 => some (cI .u64)
  | 135 => some (cI .u64)
  | 136 => some (cF)
  | 137 => some (cF)
  | 138 => some (cSl)
  | 139 => some (cF)
  | 140 => some (cF)
  | 141 => some (cF)
  | 142 => some (cF)
  | 143 => some (cF)
  | 144 => some (cF)
  | 145 => some (cF)
  | 146 => some (cF)
  | 147 => some (cF)
  | 153 => some (cF)
  | 154 => some (cI .u8)
  | 155 => some (cI .u8)
  | 156 => some (cF)
  | 157 => some (cP)
  | 158 => some (cI .i32)
  | 159 => some (cI .i32)
  | _ => none
def ress : FuncId → Option Cdc
  | 0 => some (tupC [])
  | 1 => some (tupC [])
  | 2 => some (tupC [])
  | 3 => some (cB)
  | 4 => some (cP)
  | 5 => some (cP)
  | 6 => some (tupC [cSl, cB])
  | 7 => some (tupC [cSl, cB])
  | 8 => some (cB)
  | 9 => some (cB)
  | 10 => some (cB)
  | 11 => some (cB)
  | 12 => some (cB)
  | 13 => some (cB)
  | 14 => some (cSl)
  | 15 => some (cSl)
  | 16 => some (cB)
  | 17 => some (cB)
  | 18 => some (cB)
  | 19 => some (cB)
  | 20 => some (cP)
  | 21 => some (cP)
  | 22 => some (cP)
  | 23 => some (cP)
  | 24 => some (cP)
  | 25 => some (cSl)
  | 26 => some (tupC [cFrame, cI .i64])
  | 27 => some (tupC [cSl, cMsg, cB, cB])
  | 28 => some (cB)
  | 29 => some (cSl)
  | 30 => some (tupC [cFrame, cI .i64])
  | 31 => some (tupC [cSl, cMsg, cB, cB])
  | 32 => some (cB)
  | 33 => some (tupC [cFrame, cB])
  | 34 => some (tupC [cFrame, cB])
  | 35 => some (cB)
  | 36 => some (cB)
  | 37 => some (tupC [cSl, cB])
  | 38 => some (tupC [cSl, cB])
  | 39 => some (tupC [cSl, cB])
  | 40 => some (tupC [cSl, cB])
  | 41 => some (cB)
  | 42 => some (cSl)
  | 43 => some (cMsg)
  | 44 => some (cP)
  | 45 => some (cB)
  | 46 => some (tupC [cSl, cI .i64, cB])
  | 47 => some (tupC [])
  | 48 => some (tupC [cI .i64, cSl])
  | 49 => some (cI .i64)
  | 50 => some (tupC [cSl, cI .i64])
  | 51 => some (tupC [cSl, cB])
  | 52 => some (tupC [cSl, cMsg, cB])
  | 53 => some (tupC [cSl, cB])
  | 54 => some (cSl)
  | 55 => some (cB)
  | 56 => some (tupC [cSl, cI .i64, cB])
  | 57 => some (cB)
  | 58 => some (tupC [cI .i64, cI .i64, cB])
  | 59 => some (tupC [cSl, cI .i64])
  | 60 => some (cI .i64)
  | 61 => some (tupC [cSl, cB])
  | 62 => some (tupC [cSl, cB])
  | 63 => some (cB)
  | 64 => some (cFrame)
  | 65 => some (cB)
  | 66 => some (cB)
  | 67 => some (cFrame)
  | 68 => some (cB)
  | 69 => some (cB)
  | 70 => some (cFrame)
  | 71 => some (tupC [cSl, cB])
  | 72 => some (cSl)
  | 73 => some (cB)
  | 74 => some (cFrame)
  | 75 => some (cB)
  | 76 => some (cSl)
  | 77 => some (cI .u32)
  | 78 => some (cSl)
  | 79 => some (tupC [cI .i64, cI .i64, cB])
  | 80 => some (tupC [])
  | 81 => some (tupC [cI .i64, cSl])
  | 82 => some (tupC [cSl, cB])
  | 83 => some (cSl)
  | 84 => some (cB)
  | 85 => some (cSl)
  | 86 => some (cSl)
  | 87 => some (cI .i64)
  | 88 => some (cSl)
  | 89 => some (tupC [cSl, cB])
  | 90 => some (cSl)
  | 91 => some (cI .i64)
  | 92 => some (cI .u32)
  | 93 => some (cSl)
  | 94 => some (cI .u32)
  | 95 => some (cI .i64)
  | 96 => some (cSl)
  | 97 => some (cSl)
  | 98 => some (cI .u64)
  | 99 => some (cI .u64)
  | 100 => some (cI .u32)
  | 101 => some (cS)
  | 102 => some (tupC [])
  | 103 => some (cS)
  | 104 => some (tupC [])
  | 105 => some (cS)
  | 106 => some (tupC [])
  | 107 => some (cS)
  | 108 => some (tupC [])
  | 109 => some (cS)
  | 110 => some (tupC [])
  | 111 => some (cS)
  | 112 => some (tupC [])
  | 113 => some (cI .i64)
  | 114 => some (cS)
  | 115 => some (tupC [])
  | 116 => some (cI .i64)
  | 117 => some (tupC [])
  | 118 => some (cS)
  | 119 => some (cI .i64)
  | 120 => some (cS)
  | _ => none

def eqL : List Nat := [2, 3, 4, 5, 6, 9, 10, 11, 12, 21, 28, 29, 30, 64, 65, 66, 99, 100, 126, 129, 134, 135, 154, 155, 158, 159]
theorem prog_ok : progB Tryz.prog = true := by kernel_rfl
theorem dep_ok : Nat.ble 20 Tryz.prog.depth = true := by kernel_rfl
theorem eqs_ok : eqL.all (eqTy Tryz.prog 20) = true := by kernel_rfl
theorem mix_ok : Tryz.prog.follows .mixedOrders = true := by kernel_rfl
end Go.Proofs.YtmkgcdgpokidjaaGreat
