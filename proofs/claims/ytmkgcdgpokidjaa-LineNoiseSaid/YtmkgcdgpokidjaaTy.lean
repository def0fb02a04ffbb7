/- Types of this seat, and what is to be known of its tables: made by program (drive.py). -/
import Derived.Test.YtmkgcdgpokidjaaProg
import Derived.KernelRfl
import Derived.Test.YtmkgcdgpokidjaaES
set_option linter.unusedVariables false
namespace Go.Proofs.Ytmkgcdgpokidjaa
open Go.Eng
structure R9Keep where
  L : Sl
abbrev cR9Keep : Cdc := aggC R9Keep [.sl] (fun x => ⟨x⟩) (fun s => s.L) (fun _ => rfl) (fun _ => rfl)
structure Arr6ii64 where
  e0 : Int
  e1 : Int
  e2 : Int
  e3 : Int
  e4 : Int
  e5 : Int
abbrev cArr6ii64 : Cdc := aggC Arr6ii64 [.i .i64, .i .i64, .i .i64, .i .i64, .i .i64, .i .i64] (fun x => ⟨x.1, x.2.1, x.2.2.1, x.2.2.2.1, x.2.2.2.2.1, x.2.2.2.2.2⟩) (fun s => (s.e0, s.e1, s.e2, s.e3, s.e4, s.e5)) (fun _ => rfl) (fun _ => rfl)
structure Msg where
  Kind : Int
  F_0 : Int
  F_1 : Int
  F_2 : Int
  F_3 : Int
  F_4 : Int
  F_5 : Int
abbrev cMsg : Cdc := aggC Msg [.i .i64, .i .i64, .i .i64, .i .i64, .i .i64, .i .i64, .i .i64] (fun x => ⟨x.1, x.2.1, x.2.2.1, x.2.2.2.1, x.2.2.2.2.1, x.2.2.2.2.2.1, x.2.2.2.2.2.2⟩) (fun s => (s.Kind, s.F_0, s.F_1, s.F_2, s.F_3, s.F_4, s.F_5)) (fun _ => rfl) (fun _ => rfl)
structure Frame where
  Seq : Int
  Msg_Kind : Int
  Msg_F_0 : Int
  Msg_F_1 : Int
  Msg_F_2 : Int
  Msg_F_3 : Int
  Msg_F_4 : Int
  Msg_F_5 : Int
abbrev cFrame : Cdc := aggC Frame [.i .i64, .i .i64, .i .i64, .i .i64, .i .i64, .i .i64, .i .i64, .i .i64] (fun x => ⟨x.1, x.2.1, x.2.2.1, x.2.2.2.1, x.2.2.2.2.1, x.2.2.2.2.2.1, x.2.2.2.2.2.2.1, x.2.2.2.2.2.2.2⟩) (fun s => (s.Seq, s.Msg_Kind, s.Msg_F_0, s.Msg_F_1, s.Msg_F_2, s.Msg_F_3, s.Msg_F_4, s.Msg_F_5)) (fun _ => rfl) (fun _ => rfl)
structure L8Act where
  Kind : Int
  Box : Int
  B : Sl
abbrev cL8Act : Cdc := aggC L8Act [.i .i64, .i .i64, .sl] (fun x => ⟨x.1, x.2.1, x.2.2⟩) (fun s => (s.Kind, s.Box, s.B)) (fun _ => rfl) (fun _ => rfl)
structure R8Box where
  L : Sl
  N : Int
  Shut : Bool
abbrev cR8Box : Cdc := aggC R8Box [.sl, .i .i64, .b] (fun x => ⟨x.1, x.2.1, x.2.2⟩) (fun s => (s.L, s.N, s.Shut)) (fun _ => rfl) (fun _ => rfl)
structure R7Flow where
  B : Sl
  Lost : Int
abbrev cR7Flow : Cdc := aggC R7Flow [.sl, .i .i64] (fun x => ⟨x.1, x.2⟩) (fun s => (s.B, s.Lost)) (fun _ => rfl) (fun _ => rfl)
structure L10Act where
  Kind : Int
  Frame_Seq : Int
  Frame_Msg_Kind : Int
  Frame_Msg_F_0 : Int
  Frame_Msg_F_1 : Int
  Frame_Msg_F_2 : Int
  Frame_Msg_F_3 : Int
  Frame_Msg_F_4 : Int
  Frame_Msg_F_5 : Int
  Many : Int
abbrev cL10Act : Cdc := aggC L10Act [.i .i64, .i .i64, .i .i64, .i .i64, .i .i64, .i .i64, .i .i64, .i .i64, .i .i64, .i .i64] (fun x => ⟨x.1, x.2.1, x.2.2.1, x.2.2.2.1, x.2.2.2.2.1, x.2.2.2.2.2.1, x.2.2.2.2.2.2.1, x.2.2.2.2.2.2.2.1, x.2.2.2.2.2.2.2.2.1, x.2.2.2.2.2.2.2.2.2⟩) (fun s => (s.Kind, s.Frame_Seq, s.Frame_Msg_Kind, s.Frame_Msg_F_0, s.Frame_Msg_F_1, s.Frame_Msg_F_2, s.Frame_Msg_F_3, s.Frame_Msg_F_4, s.Frame_Msg_F_5, s.Many)) (fun _ => rfl) (fun _ => rfl)
structure R10Sess where
  beat : Int
  Up : Bool
  Want : Int
  K : Option Addr
  sent : Int
  heard : Int
  asked : Int
abbrev cR10Sess : Cdc := aggC R10Sess [.i .i64, .b, .i .i64, .p, .i .i64, .i .i64, .i .i64] (fun x => ⟨x.1, x.2.1, x.2.2.1, x.2.2.2.1, x.2.2.2.2.1, x.2.2.2.2.2.1, x.2.2.2.2.2.2⟩) (fun s => (s.beat, s.Up, s.Want, s.K, s.sent, s.heard, s.asked)) (fun _ => rfl) (fun _ => rfl)
structure MailBox where
  c : Option Nat
  shut : Bool
abbrev cMailBox : Cdc := aggC MailBox [.c, .b] (fun x => ⟨x.1, x.2⟩) (fun s => (s.c, s.shut)) (fun _ => rfl) (fun _ => rfl)
structure KeepKeep where
  l : Sl
  next : Int
abbrev cKeepKeep : Cdc := aggC KeepKeep [.sl, .i .i64] (fun x => ⟨x.1, x.2⟩) (fun s => (s.l, s.next)) (fun _ => rfl) (fun _ => rfl)
structure Packshort where
abbrev cPackshort : Cdc := aggC Packshort [] (fun _ => {}) (fun _ => ()) (fun _ => rfl) (fun _ => rfl)
structure FlowFlow where
  b : Sl
  lost : Int
abbrev cFlowFlow : Cdc := aggC FlowFlow [.sl, .i .i64] (fun x => ⟨x.1, x.2⟩) (fun s => (s.b, s.lost)) (fun _ => rfl) (fun _ => rfl)
structure SessSess where
  beat : Int
  up : Bool
  want : Int
  keep : Option Addr
  asked : Int
  sent : Int
  heard : Int
abbrev cSessSess : Cdc := aggC SessSess [.i .i64, .b, .i .i64, .p, .i .i64, .i .i64, .i .i64] (fun x => ⟨x.1, x.2.1, x.2.2.1, x.2.2.2.1, x.2.2.2.2.1, x.2.2.2.2.2.1, x.2.2.2.2.2.2⟩) (fun s => (s.beat, s.up, s.want, s.keep, s.asked, s.sent, s.heard)) (fun _ => rfl) (fun _ => rfl)
structure Msgnone where
abbrev cMsgnone : Cdc := aggC Msgnone [] (fun _ => {}) (fun _ => ()) (fun _ => rfl) (fun _ => rfl)
structure LineLine where
  flow : Option Addr
  sess : Option Addr
  box : Option Addr
abbrev cLineLine : Cdc := aggC LineLine [.p, .p, .p] (fun x => ⟨x.1, x.2.1, x.2.2⟩) (fun s => (s.flow, s.sess, s.box)) (fun _ => rfl) (fun _ => rfl)
def cdcs : TypeId → Option Cdc
  | 1 => some (cF)
  | 2 => some (cI .i64)
  | 3 => some (cI .i64)
  | 4 => some (cB)
  | 5 => some (cI .u8)
  | 6 => some (cI .u8)
  | 9 => some (cS)
  | 10 => some (cS)
  | 11 => some (cS)
  | 12 => some (cI .u64)
  | 15 => some (cP)
  | 16 => some (cP)
  | 17 => some (cP)
  | 21 => some (cI .i32)
  | 22 => some (cSl)
  | 23 => some (cP)
  | 24 => some (cF)
  | 25 => some (cSl)
  | 26 => some (cF)
  | 28 => some (cF)
  | 29 => some (cF)
  | 30 => some (cF)
  | 31 => some (cSl)
  | 32 => some (cSl)
  | 34 => some (cF)
  | 35 => some (cF)
  | 36 => some (cSl)
  | 37 => some (cSl)
  | 38 => some (cP)
  | 39 => some (cF)
  | 40 => some (cP)
  | 41 => some (cSl)
  | 42 => some (cR9Keep)
  | 43 => some (cR9Keep)
  | 44 => some (cArr6ii64)
  | 45 => some (cMsg)
  | 46 => some (cMsg)
  | 47 => some (cFrame)
  | 48 => some (cFrame)
  | 49 => some (cF)
  | 51 => some (cF)
  | 52 => some (cF)
  | 53 => some (cF)
  | 54 => some (cF)
  | 55 => some (cF)
  | 56 => some (cF)
  | 57 => some (cSl)
  | 58 => some (cSl)
  | 59 => some (cSl)
  | 60 => some (cP)
  | 61 => some (cF)
  | 62 => some (cL8Act)
  | 63 => some (cL8Act)
  | 64 => some (cF)
  | 65 => some (cR8Box)
  | 66 => some (cR8Box)
  | 67 => some (cF)
  | 68 => some (cF)
  | 69 => some (cF)
  | 70 => some (cF)
  | 71 => some (cI .i64)
  | 73 => some (cF)
  | 74 => some (cF)
  | 75 => some (cF)
  | 76 => some (cF)
  | 78 => some (cF)
  | 80 => some (cF)
  | 81 => some (cF)
  | 82 => some (cF)
  | 83 => some (cSl)
  | 84 => some (cF)
  | 85 => some (cF)
  | 86 => some (cF)
  | 87 => some (cF)
  | 88 => some (cF)
  | 89 => some (cP)
  | 90 => some (cF)
  | 91 => some (cP)
  | 92 => some (cR7Flow)
  | 93 => some (cR7Flow)
  | 94 => some (cF)
  | 95 => some (cF)
  | 96 => some (cF)
  | 97 => some (cF)
  | 98 => some (cF)
  | 99 => some (cP)
  | 100 => some (cF)
  | 102 => some (cF)
  | 103 => some (cF)
  | 104 => some (cF)
  | 105 => some (cF)
  | 106 => some (cF)
  | 108 => some (cF)
  | 109 => some (cF)
  | 111 => some (cF)
  | 112 => some (cF)
  | 113 => some (cF)
  | 114 => some (cF)
  | 115 => some (cF)
  | 117 => some (cF)
  | 118 => some (cF)
  | 119 => some (cSl)
  | 120 => some (cP)
  | 121 => some (cF)
  | 122 => some (cL10Act)
  | 123 => some (cL10Act)
  | 124 => some (cR10Sess)
  | 125 => some (cR10Sess)
  | 126 => some (cF)
  | 127 => some (cF)
  | 128 => some (cP)
  | 129 => some (cF)
  | 130 => some (cF)
  | 131 => some (cF)
  | 132 => some (cF)
  | 133 => some (cF)
  | 134 => some (cC)
  | 135 => some (cMailBox)
  | 136 => some (cMailBox)
  | 137 => some (cF)
  | 138 => some (cKeepKeep)
  | 139 => some (cKeepKeep)
  | 140 => some (cF)
  | 141 => some (cF)
  | 142 => some (cI .u64)
  | 143 => some (cF)
  | 144 => some (cI .u64)
  | 145 => some (cPackshort)
  | 146 => some (cPackshort)
  | 149 => some (cF)
  | 150 => some (cF)
  | 151 => some (cF)
  | 152 => some (cF)
  | 153 => some (cF)
  | 154 => some (cI .u32)
  | 155 => some (cF)
  | 156 => some (cF)
  | 157 => some (cFlowFlow)
  | 158 => some (cFlowFlow)
  | 159 => some (cSessSess)
  | 160 => some (cSessSess)
  | 162 => some (cF)
  | 163 => some (cF)
  | 164 => some (cMsgnone)
  | 166 => some (cF)
  | 167 => some (cF)
  | 168 => some (cLineLine)
  | 169 => some (cLineLine)
  | 170 => some (cF)
  | 171 => some (cF)
  | 172 => some (cF)
  | 173 => some (cF)
  | 174 => some (cF)
  | 180 => some (cI .u8)
  | 181 => some (cI .u8)
  | 182 => some (cF)
  | 183 => some (cP)
  | 184 => some (cI .i32)
  | 185 => some (cI .i32)
  | _ => none
def ress : FuncId → Option Cdc
  | 0 => some (tupC [])
  | 1 => some (tupC [])
  | 2 => some (tupC [])
  | 3 => some (cB)
  | 4 => some (cB)
  | 5 => some (cB)
  | 6 => some (cB)
  | 7 => some (cB)
  | 8 => some (cB)
  | 9 => some (cB)
  | 10 => some (cB)
  | 11 => some (cB)
  | 12 => some (cB)
  | 13 => some (cB)
  | 14 => some (cB)
  | 15 => some (cB)
  | 16 => some (cB)
  | 17 => some (cB)
  | 18 => some (cB)
  | 19 => some (cB)
  | 20 => some (cB)
  | 21 => some (cB)
  | 22 => some (cB)
  | 23 => some (cB)
  | 24 => some (cB)
  | 25 => some (cB)
  | 26 => some (cB)
  | 27 => some (cB)
  | 28 => some (cB)
  | 29 => some (cB)
  | 30 => some (cB)
  | 31 => some (cB)
  | 32 => some (cB)
  | 33 => some (cB)
  | 34 => some (cB)
  | 35 => some (cB)
  | 36 => some (cB)
  | 37 => some (cB)
  | 38 => some (cB)
  | 39 => some (cB)
  | 40 => some (cB)
  | 41 => some (cB)
  | 42 => some (cP)
  | 43 => some (cB)
  | 44 => some (tupC [])
  | 45 => some (tupC [cSl, cB])
  | 46 => some (cB)
  | 47 => some (tupC [cSl, cI .i64, cB])
  | 48 => some (cP)
  | 49 => some (cFrame)
  | 50 => some (cFrame)
  | 51 => some (tupC [cSl, cB])
  | 52 => some (tupC [cSl, cB])
  | 53 => some (cB)
  | 54 => some (cI .i64)
  | 55 => some (cI .i64)
  | 56 => some (cB)
  | 57 => some (cP)
  | 58 => some (tupC [cSl, cI .i64, cB])
  | 59 => some (cB)
  | 60 => some (tupC [cSl, cB])
  | 61 => some (cI .i64)
  | 62 => some (cSl)
  | 63 => some (tupC [cSl, cI .i64])
  | 64 => some (cSl)
  | 65 => some (cB)
  | 66 => some (cB)
  | 67 => some (tupC [cSl, cI .i64])
  | 68 => some (tupC [cI .i64, cI .i64, cB])
  | 69 => some (tupC [cI .i64, cI .i64, cB])
  | 70 => some (tupC [cSl, cB])
  | 71 => some (tupC [cSl, cB])
  | 72 => some (cB)
  | 73 => some (tupC [cSl, cI .i64, cB])
  | 74 => some (tupC [cSl, cI .i64, cB])
  | 75 => some (cP)
  | 76 => some (cB)
  | 77 => some (cSl)
  | 78 => some (cSl)
  | 79 => some (cI .i64)
  | 80 => some (cI .i64)
  | 81 => some (cB)
  | 82 => some (cP)
  | 83 => some (tupC [cSl, cMsg, cB, cB])
  | 84 => some (cI .i64)
  | 85 => some (cB)
  | 86 => some (cMsg)
  | 87 => some (tupC [cSl, cB])
  | 88 => some (cB)
  | 89 => some (cSl)
  | 90 => some (cSl)
  | 91 => some (cB)
  | 92 => some (cB)
  | 93 => some (cB)
  | 94 => some (tupC [cFrame, cI .i64])
  | 95 => some (tupC [cFrame, cI .i64])
  | 96 => some (cI .i64)
  | 97 => some (cI .i64)
  | 98 => some (cB)
  | 99 => some (cB)
  | 100 => some (cB)
  | 101 => some (cB)
  | 102 => some (tupC [cFrame, cB])
  | 103 => some (cB)
  | 104 => some (cP)
  | 105 => some (tupC [cSl, cMsg, cB, cB])
  | 106 => some (tupC [cFrame, cB])
  | 107 => some (cB)
  | 108 => some (tupC [cSl, cB])
  | 109 => some (cSl)
  | 110 => some (cP)
  | 111 => some (tupC [cSl, cB])
  | 112 => some (cSl)
  | 113 => some (cB)
  | 114 => some (cB)
  | 115 => some (cB)
  | 116 => some (cB)
  | 117 => some (cSl)
  | 118 => some (cSl)
  | 119 => some (cSl)
  | 120 => some (cI .u64)
  | 121 => some (tupC [])
  | 122 => some (tupC [cI .i64, cSl])
  | 123 => some (cSl)
  | 124 => some (cI .i64)
  | 125 => some (cI .i64)
  | 126 => some (cSl)
  | 127 => some (cSl)
  | 128 => some (cI .u32)
  | 129 => some (cI .u32)
  | 130 => some (cB)
  | 131 => some (cB)
  | 132 => some (cB)
  | 133 => some (tupC [cSl, cB])
  | 134 => some (tupC [cSl, cMsg, cB])
  | 135 => some (cFrame)
  | 136 => some (tupC [])
  | 137 => some (tupC [cI .i64, cSl])
  | 138 => some (tupC [cSl, cB])
  | 139 => some (tupC [cSl, cB])
  | 140 => some (cFrame)
  | 141 => some (cB)
  | 142 => some (cI .u64)
  | 143 => some (cSl)
  | 144 => some (cI .u32)
  | 145 => some (cI .u32)
  | 146 => some (cSl)
  | 147 => some (cS)
  | 148 => some (tupC [])
  | 149 => some (cS)
  | 150 => some (tupC [])
  | 151 => some (cS)
  | 152 => some (tupC [])
  | 153 => some (cS)
  | 154 => some (tupC [])
  | 155 => some (cS)
  | 156 => some (tupC [])
  | 157 => some (cS)
  | 158 => some (tupC [])
  | 159 => some (cI .i64)
  | 160 => some (cS)
  | 161 => some (tupC [])
  | 162 => some (cS)
  | 163 => some (cS)
  | _ => none

def eqL : List Nat := [2, 3, 4, 5, 6, 9, 10, 11, 12, 21, 44, 45, 46, 47, 48, 71, 122, 123, 142, 144, 145, 146, 154, 164, 180, 181, 184, 185]
theorem prog_ok : progB Try.prog = true := by kernel_rfl
theorem dep_ok : Nat.ble 20 Try.prog.depth = true := by kernel_rfl
theorem eqs_ok : eqL.all (eqTy Try.prog 20) = true := by kernel_rfl
theorem mix_ok : Try.prog.follows .mixedOrders = true := by kernel_rfl
end Go.Proofs.Ytmkgcdgpokidjaa
