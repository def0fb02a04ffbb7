/- Types of this seat, and what is to be known of its tables: made by program (drive.py). -/
import Derived.Test.YtplfogbgobkcfaaProg
import Derived.KernelRfl
import Derived.Test.YtplfogbgobkcfaaES
set_option linter.unusedVariables false
namespace Go.Proofs.Ytplfogbgobkcfaa
open Go.Eng
structure R9Keep where
  L : Sl
abbrev cR9Keep : Cdc := aggC R9Keep [.sl] (fun x => ⟨x⟩) (fun s => s.L) (fun _ => rfl) (fun _ => rfl)
structure Arr6ii64 where
  e0 : Int
  e1 : Int
  e2 : Int
  e3 : Int
  e4 : Int
  e5 : Int
abbrev cArr6ii64 : Cdc := aggC Arr6ii64 [.i .i64, .i .i64, .i .i64, .i .i64, .i .i64, .i .i64] (fun x => ⟨x.1, x.2.1, x.2.2.1, x.2.2.2.1, x.2.2.2.2.1, x.2.2.2.2.2⟩) (fun s => (s.e0, s.e1, s.e2, s.e3, s.e4, s.e5)) (fun _ => rfl) (fun _ => rfl)
structure Msg where
  Kind : Int
  F_0 : Int
  F_1 : Int
  F_2 : Int
  F_3 : Int
  F_4 : Int
  F_5 : Int
abbrev cMsg : Cdc := aggC Msg [.i .i64, .i .i64, .i .i64, .i .i64, .i .i64, .i .i64, .i .i64] (fun x => ⟨x.1, x.2.1, x.2.2.1, x.2.2.2.1, x.2.2.2.2.1, x.2.2.2.2.2.1, x.2.2.2.2.2.2⟩) (fun s => (s.Kind, s.F_0, s.F_1, s.F_2, s.F_3, s.F_4, s.F_5)) (fun _ => rfl) (fun _ => rfl)
structure Frame where
  Seq : Int
  Msg_Kind : Int
  Msg_F_0 : Int
  Msg_F_1 : Int
  Msg_F_2 : Int
  Msg_F_3 : Int
  Msg_F_4 : Int
  Msg_F_5 : Int
abbrev cFrame : Cdc := aggC Frame [.i .i64, .i .i64, .i .i64, .i .i64, .i .i64, .i .i64, .i .i64, .i .i64] (fun x => ⟨x.1, x.2.1, x.2.2.1, x.2.2.2.1, x.2.2.2.2.1, x.2.2.2.2.2.1, x.2.2.2.2.2.2.1, x.2.2.2.2.2.2.2⟩) (fun s => (s.Seq, s.Msg_Kind, s.Msg_F_0, s.Msg_F_1, s.Msg_F_2, s.Msg_F_3, s.Msg_F_4, s.Msg_F_5)) (fun _ => rfl) (fun _ => rfl)
structure L8Act where
  Kind : Int
  Box : Int
  B : Sl
abbrev cL8Act : Cdc := aggC L8Act [.i .i64, .i .i64, .sl] (fun x => ⟨x.1, x.2.1, x.2.2⟩) (fun s => (s.Kind, s.Box, s.B)) (fun _ => rfl) (fun _ => rfl)
structure R8Box where
  L : Sl
  N : Int
  Shut : Bool
abbrev cR8Box : Cdc := aggC R8Box [.sl, .i .i64, .b] (fun x => ⟨x.1, x.2.1, x.2.2⟩) (fun s => (s.L, s.N, s.Shut)) (fun _ => rfl) (fun _ => rfl)
structure R21Blot where
  L : Sl
abbrev cR21Blot : Cdc := aggC R21Blot [.sl] (fun x => ⟨x⟩) (fun s => s.L) (fun _ => rfl) (fun _ => rfl)
structure Trade where
  ID : Int
  Bond : Int
  Buyer : Int
  Seller : Int
  Price : Int
  Qty : Int
  Ask : Int
  Tick : Int
abbrev cTrade : Cdc := aggC Trade [.i .i64, .i .i64, .i .i64, .i .i64, .i .i64, .i .i64, .i .i64, .i .i64] (fun x => ⟨x.1, x.2.1, x.2.2.1, x.2.2.2.1, x.2.2.2.2.1, x.2.2.2.2.2.1, x.2.2.2.2.2.2.1, x.2.2.2.2.2.2.2⟩) (fun s => (s.ID, s.Bond, s.Buyer, s.Seller, s.Price, s.Qty, s.Ask, s.Tick)) (fun _ => rfl) (fun _ => rfl)
structure MailBox where
  c : Option Nat
  shut : Bool
abbrev cMailBox : Cdc := aggC MailBox [.c, .b] (fun x => ⟨x.1, x.2⟩) (fun s => (s.c, s.shut)) (fun _ => rfl) (fun _ => rfl)
structure KeepKeep where
  l : Sl
  next : Int
abbrev cKeepKeep : Cdc := aggC KeepKeep [.sl, .i .i64] (fun x => ⟨x.1, x.2⟩) (fun s => (s.l, s.next)) (fun _ => rfl) (fun _ => rfl)
structure BlotBlot where
  l : Sl
  head : Int
abbrev cBlotBlot : Cdc := aggC BlotBlot [.sl, .i .u64] (fun x => ⟨x.1, x.2⟩) (fun s => (s.l, s.head)) (fun _ => rfl) (fun _ => rfl)
def cdcs : TypeId → Option Cdc
  | 2 => some (cI .i64)
  | 3 => some (cI .i64)
  | 4 => some (cB)
  | 5 => some (cI .u8)
  | 6 => some (cI .u8)
  | 9 => some (cS)
  | 10 => some (cS)
  | 11 => some (cS)
  | 12 => some (cI .u64)
  | 15 => some (cP)
  | 16 => some (cP)
  | 17 => some (cP)
  | 21 => some (cI .i32)
  | 22 => some (cSl)
  | 23 => some (cSl)
  | 24 => some (cI .u32)
  | 30 => some (cI .u64)
  | 35 => some (cP)
  | 41 => some (cSl)
  | 42 => some (cSl)
  | 46 => some (cSl)
  | 47 => some (cSl)
  | 48 => some (cP)
  | 50 => some (cP)
  | 51 => some (cSl)
  | 52 => some (cR9Keep)
  | 53 => some (cR9Keep)
  | 54 => some (cArr6ii64)
  | 55 => some (cMsg)
  | 56 => some (cMsg)
  | 57 => some (cFrame)
  | 58 => some (cFrame)
  | 67 => some (cSl)
  | 68 => some (cSl)
  | 69 => some (cSl)
  | 70 => some (cP)
  | 72 => some (cL8Act)
  | 73 => some (cL8Act)
  | 75 => some (cR8Box)
  | 76 => some (cR8Box)
  | 80 => some (cSl)
  | 81 => some (cP)
  | 83 => some (cP)
  | 84 => some (cR21Blot)
  | 85 => some (cR21Blot)
  | 86 => some (cTrade)
  | 87 => some (cTrade)
  | 93 => some (cSl)
  | 97 => some (cI .u64)
  | 98 => some (cC)
  | 99 => some (cMailBox)
  | 100 => some (cMailBox)
  | 102 => some (cKeepKeep)
  | 103 => some (cKeepKeep)
  | 106 => some (cBlotBlot)
  | 107 => some (cBlotBlot)
  | 119 => some (cI .u8)
  | 120 => some (cI .u8)
  | 122 => some (cP)
  | 123 => some (cI .i32)
  | 124 => some (cI .i32)
  | _ => none
def ress : FuncId → Option Cdc
  | 0 => some (tupC [])
  | 1 => some (tupC [])
  | 2 => some (tupC [])
  | 3 => some (cB)
  | 4 => some (cB)
  | 5 => some (cB)
  | 6 => some (cB)
  | 7 => some (cB)
  | 8 => some (cB)
  | 9 => some (cB)
  | 10 => some (cB)
  | 11 => some (cB)
  | 12 => some (cB)
  | 13 => some (cB)
  | 14 => some (cB)
  | 15 => some (cB)
  | 16 => some (cB)
  | 17 => some (cI .u32)
  | 18 => some (cI .u32)
  | 19 => some (cB)
  | 20 => some (cI .u32)
  | 21 => some (cI .u64)
  | 22 => some (cI .u64)
  | 23 => some (cP)
  | 24 => some (cB)
  | 25 => some (tupC [])
  | 26 => some (tupC [cSl, cB])
  | 27 => some (cB)
  | 28 => some (tupC [cSl, cI .i64, cB])
  | 29 => some (cP)
  | 30 => some (cFrame)
  | 31 => some (cFrame)
  | 32 => some (tupC [cSl, cB])
  | 33 => some (tupC [cSl, cB])
  | 34 => some (cB)
  | 35 => some (cI .i64)
  | 36 => some (cI .i64)
  | 37 => some (cB)
  | 38 => some (cP)
  | 39 => some (tupC [cSl, cI .i64, cB])
  | 40 => some (cB)
  | 41 => some (tupC [cSl, cB])
  | 42 => some (cI .i64)
  | 43 => some (cP)
  | 44 => some (cTrade)
  | 45 => some (cTrade)
  | 46 => some (cI .u64)
  | 47 => some (cI .u64)
  | 48 => some (cB)
  | 49 => some (cSl)
  | 50 => some (cB)
  | 51 => some (cSl)
  | 52 => some (cSl)
  | 53 => some (cSl)
  | 54 => some (cSl)
  | 55 => some (cI .u32)
  | 56 => some (cSl)
  | 57 => some (cSl)
  | 58 => some (cSl)
  | 59 => some (cSl)
  | 60 => some (cSl)
  | 61 => some (cSl)
  | 62 => some (cI .u64)
  | 63 => some (cSl)
  | 64 => some (cI .u64)
  | 65 => some (cS)
  | 66 => some (tupC [])
  | 67 => some (cS)
  | 68 => some (tupC [])
  | 69 => some (cS)
  | 70 => some (tupC [])
  | 71 => some (cS)
  | 72 => some (tupC [])
  | 73 => some (cS)
  | 74 => some (tupC [])
  | 75 => some (cS)
  | 76 => some (tupC [])
  | 77 => some (cI .i64)
  | 78 => some (cS)
  | 79 => some (tupC [])
  | 80 => some (cS)
  | _ => none

def eqL : List Nat := [2, 3, 4, 5, 6, 9, 10, 11, 12, 21, 24, 30, 54, 55, 56, 57, 58, 86, 87, 97, 119, 120, 123, 124]
theorem prog_ok : progB Try.prog = true := by kernel_rfl
theorem dep_ok : Nat.ble 20 Try.prog.depth = true := by kernel_rfl
theorem eqs_ok : eqL.all (eqTy Try.prog 20) = true := by kernel_rfl
theorem mix_ok : Try.prog.follows .mixedOrders = true := by kernel_rfl
end Go.Proofs.Ytplfogbgobkcfaa
