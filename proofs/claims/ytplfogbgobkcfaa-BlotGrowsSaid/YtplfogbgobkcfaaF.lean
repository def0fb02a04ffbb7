/- What the functions say, each as one statement: made by program (drive.py). -/
import Derived.Test.YtplfogbgobkcfaaTy
set_option linter.unusedVariables false
set_option maxRecDepth 20000
namespace Go.Proofs.Ytplfogbgobkcfaa
open Go.Eng
def a3 : Ann := { prom := 0, refs := [], dyn := 0, bcd := fun s => match s with | _ => none, eqs := memL eqL, cdc := cdcs, res := ress, pure := memL [] }
def n3 : An := (.seq (.reg []) (.seq (.reg []) (.seq (.seq (.reg []) (.block (.loop [(3, false, cSl), (4, false, cI .i64)] 4294967196 (.seq (.seq (.reg []) (.cond .leaf .leaf)) (.seq (.block (.seq (.join [(25, false, cB)] 67100672 (.reg []) (.cond (.seq (.reg []) .leaf) .leaf)) (.reg []))) (.reg [])))))) (.seq (.reg []) (.seq (.seq (.reg []) (.block (.loop [(5, false, cI .u32), (6, false, cI .i64)] 17587891077216 (.seq (.seq (.reg []) (.cond .leaf .leaf)) (.seq (.block (.reg [])) (.reg [])))))) (.seq (.reg []) .leaf))))))
/-- consols/consolslaw4.SumRows -/
def F3 (p0 : Sl) (h : Hp) (Q : Bool → Hp → Prop) : Prop :=
  loopP ({ a := none, len := (0 : Nat), cap := (0 : Nat) : Sl }, (0 : Int)) h fun (J1 : Sl × Int → Hp → Prop) (z1 : Sl × Int) (h1 : Hp) =>
    condP (decide (z1.snd < (↑p0.len : Int)))
      (joinP
        (fun (t1 : Bool) (h2 : Hp) =>
          condP t1 (Q true h2)
            (idxP p0.a p0.len z1.snd fun (a1 : Addr) =>
              loadP cSl (a1.add (z1.snd.toNat * (1 : Nat))) h2 fun (s1 : Sl) =>
                appendP (cI IntKind.u8) (5 : Nat) (1 : Nat) z1.fst.a z1.fst.len z1.fst.cap s1.a s1.len h2 fun (p1 : Option Addr) (k1 k2 : Nat) (h3 : Hp) =>
                  J1 ({ a := p1, len := k1, cap := k2 : Sl }, IntKind.i64.wrap (z1.snd + (1 : Int))) h3))
        fun (J2 : Bool → Hp → Prop) =>
        condP (decide (z1.snd > (40 : Int))) (J2 true h1)
          (idxP p0.a p0.len z1.snd fun (a2 : Addr) => loadP cSl (a2.add (z1.snd.toNat * (1 : Nat))) h1 fun (s2 : Sl) => J2 (decide (IntKind.i64.wrap ((↑z1.fst.len : Int) + (↑s2.len : Int)) > (800 : Int))) h1))
      (loopP ((0 : Int), (0 : Int)) h1 fun (J3 : Int × Int → Hp → Prop) (z2 : Int × Int) (h4 : Hp) =>
        condP (decide (z2.snd < (↑z1.fst.len : Int)))
          (idxP z1.fst.a z1.fst.len z2.snd fun (a3 : Addr) =>
            loadP (cI IntKind.u8) (a3.add (z2.snd.toNat * (1 : Nat))) h4 fun (n1 : Int) =>
              callP Try.prog (17 : Nat) [Value.int IntKind.u32 z2.fst, Value.int IntKind.u8 n1] (cI IntKind.u32) h4 fun (n2 : Int) (h5 : Hp) => J3 (n2, IntKind.i64.wrap (z2.snd + (1 : Int))) h5)
          (callP Try.prog (18 : Nat) [Value.slice p0.a p0.len p0.cap] (cI IntKind.u32) h4 fun (n3 : Int) (h6 : Hp) =>
            condP (n3 == z2.fst)
              (allocP (Obj.cells { toList := [Value.slice z1.fst.a z1.fst.len z1.fst.cap] : Array Value } (23 : Nat)) h6 fun (k3 : Nat) (h7 : Hp) =>
                callP Try.prog (18 : Nat) [Value.slice (some { block := k3, off := (0 : Nat) : Addr }) (1 : Nat) (1 : Nat)] (cI IntKind.u32) h7 fun (n4 : Int) (h8 : Hp) =>
                  condP (z2.fst == n4) (callP Try.prog (19 : Nat) [] cB h8 fun (t2 : Bool) (h9 : Hp) => Q t2 h9) (Q false h8))
              (Q false h6)))
theorem e3 (p0 : Sl) (h : Hp) (Q : Bool → Hp → Prop) : fnD a3 Try.prog 3 n3 (cB) [Value.slice p0.a p0.len p0.cap] h Q = F3 p0 h Q := by kernel_rfl
theorem c3 {p0 : Sl} {h : Hp} {Q : Bool → Hp → Prop} (hk : F3 p0 h Q) : callP Try.prog 3 [Value.slice p0.a p0.len p0.cap] (cB) h Q :=
  spec_of (prem_of prog_ok dep_ok eqs_ok rfl (by kernel_rfl)) mix_ok ((e3 p0 h Q).mpr hk)
def a4 : Ann := { prom := 0, refs := [], dyn := 0, bcd := fun s => match s with | _ => none, eqs := memL eqL, cdc := cdcs, res := ress, pure := memL [] }
def n4 : An := (.seq (.reg []) (.seq (.join [(19, false, cB)] 1048320 (.reg []) (.cond (.seq (.reg []) .leaf) .leaf)) (.seq (.reg []) (.seq (.reg []) (.seq (.reg []) .leaf)))))
/-- consols/consolslaw4.SumTurned -/
def F4 (p0 : Sl) (p1 : Int) (p2 : Int) (h : Hp) (Q : Bool → Hp → Prop) : Prop :=
  joinP
    (fun (t1 : Bool) (h1 : Hp) =>
      condP t1 (Q true h1)
        (allocP (Obj.cells { toList := [] : Array Value } (5 : Nat)) h1 fun (k1 : Nat) (h2 : Hp) =>
          appendP (cI IntKind.u8) (5 : Nat) (1 : Nat) (some { block := k1, off := (0 : Nat) : Addr }) (0 : Nat) (0 : Nat) p0.a p0.len h2 fun (p1_1 : Option Addr) (k2 k3 : Nat) (h3 : Hp) =>
            (↑k2 : Int) ≠ (0 : Int) ∧
              idxP p1_1 k2 ((andI IntKind.i64 p1 (65535 : Int)).tmod (↑k2 : Int)) fun (a1 : Addr) =>
                loadP (cI IntKind.u8) (a1.add (((andI IntKind.i64 p1 (65535 : Int)).tmod (↑k2 : Int)).toNat * (1 : Nat))) h3 fun (n1 : Int) =>
                  idxP p1_1 k2 ((andI IntKind.i64 p1 (65535 : Int)).tmod (↑k2 : Int)) fun (a2 : Addr) =>
                    storeP (cI IntKind.u8) (a2.add (((andI IntKind.i64 p1 (65535 : Int)).tmod (↑k2 : Int)).toNat * (1 : Nat))) (xorI IntKind.u8 n1 p2) h3 fun (h4 : Hp) =>
                      allocP (Obj.cells { toList := [Value.slice p1_1 k2 k3] : Array Value } (23 : Nat)) h4 fun (k4 : Nat) (h5 : Hp) =>
                        callP Try.prog (18 : Nat) [Value.slice (some { block := k4, off := (0 : Nat) : Addr }) (1 : Nat) (1 : Nat)] (cI IntKind.u32) h5 fun (n2 : Int) (h6 : Hp) =>
                          allocP (Obj.cells { toList := [Value.slice p0.a p0.len p0.cap] : Array Value } (23 : Nat)) h6 fun (k5 : Nat) (h7 : Hp) =>
                            callP Try.prog (18 : Nat) [Value.slice (some { block := k5, off := (0 : Nat) : Addr }) (1 : Nat) (1 : Nat)] (cI IntKind.u32) h7 fun (n3 : Int) (h8 : Hp) =>
                              condP (n2 != n3)
                                (allocP (Obj.cells { toList := [Value.int IntKind.u8 (0 : Int)] : Array Value } (5 : Nat)) h8 fun (k6 : Nat) (h9 : Hp) =>
                                  allocP (Obj.cells { toList := [Value.slice (some { block := k6, off := (0 : Nat) : Addr }) (1 : Nat) (1 : Nat), Value.slice p0.a p0.len p0.cap] : Array Value } (23 : Nat)) h9 fun (k7 : Nat) (h10 : Hp) =>
                                    callP Try.prog (18 : Nat) [Value.slice (some { block := k7, off := (0 : Nat) : Addr }) (2 : Nat) (2 : Nat)] (cI IntKind.u32) h10 fun (n4 : Int) (h11 : Hp) =>
                                      allocP (Obj.cells { toList := [Value.slice p0.a p0.len p0.cap] : Array Value } (23 : Nat)) h11 fun (k8 : Nat) (h12 : Hp) =>
                                        callP Try.prog (18 : Nat) [Value.slice (some { block := k8, off := (0 : Nat) : Addr }) (1 : Nat) (1 : Nat)] (cI IntKind.u32) h12 fun (n5 : Int) (h13 : Hp) =>
                                          condP (n4 != n5) (callP Try.prog (19 : Nat) [] cB h13 fun (t2 : Bool) (h14 : Hp) => Q t2 h14) (Q false h13))
                                (Q false h8)))
    fun (J1 : Bool → Hp → Prop) => condP (decide ((↑p0.len : Int) < (1 : Int))) (J1 true h) (condP (decide ((↑p0.len : Int) > (1000 : Int))) (J1 true h) (J1 (p2 == (0 : Int)) h))
theorem e4 (p0 : Sl) (p1 : Int) (p2 : Int) (h : Hp) (Q : Bool → Hp → Prop) : fnD a4 Try.prog 4 n4 (cB) [Value.slice p0.a p0.len p0.cap, Value.int IntKind.i64 p1, Value.int IntKind.u8 p2] h Q = F4 p0 p1 p2 h Q := by kernel_rfl
theorem c4 {p0 : Sl} {p1 : Int} {p2 : Int} {h : Hp} {Q : Bool → Hp → Prop} (hk : F4 p0 p1 p2 h Q) : callP Try.prog 4 [Value.slice p0.a p0.len p0.cap, Value.int IntKind.i64 p1, Value.int IntKind.u8 p2] (cB) h Q :=
  spec_of (prem_of prog_ok dep_ok eqs_ok rfl (by kernel_rfl)) mix_ok ((e4 p0 p1 p2 h Q).mpr hk)
def a5 : Ann := { prom := 0, refs := [], dyn := 0, bcd := fun s => match s with | _ => none, eqs := memL eqL, cdc := cdcs, res := ress, pure := memL [] }
def n5 : An := (.seq (.reg []) (.seq (.seq (.reg []) (.cond (.seq (.reg []) .leaf) .leaf)) (.seq (.reg []) .leaf)))
/-- consols/consolslaw4.SumTells -/
def F5 (p0 : Sl) (p1 : Int) (h : Hp) (Q : Bool → Hp → Prop) : Prop :=
  condP (decide ((↑p0.len : Int) > (2000 : Int))) (Q true h)
    (allocP (Obj.cells { toList := [Value.slice p0.a p0.len p0.cap] : Array Value } (23 : Nat)) h fun (k1 : Nat) (h1 : Hp) =>
      callP Try.prog (18 : Nat) [Value.slice (some { block := k1, off := (0 : Nat) : Addr }) (1 : Nat) (1 : Nat)] (cI IntKind.u32) h1 fun (n1 : Int) (h2 : Hp) =>
        callP Try.prog (20 : Nat) [Value.slice p0.a p0.len p0.cap] (cI IntKind.u32) h2 fun (n2 : Int) (h3 : Hp) =>
          condP (n1 == n2)
            (callP Try.prog (21 : Nat) [Value.int IntKind.u64 p1, Value.slice p0.a p0.len p0.cap] (cI IntKind.u64) h3 fun (n3 : Int) (h4 : Hp) =>
              callP Try.prog (22 : Nat) [Value.int IntKind.u64 p1, Value.slice p0.a p0.len p0.cap] (cI IntKind.u64) h4 fun (n4 : Int) (h5 : Hp) =>
                condP (n3 == n4) (callP Try.prog (19 : Nat) [] cB h5 fun (t1 : Bool) (h6 : Hp) => Q t1 h6) (Q false h5))
            (Q false h3))
theorem e5 (p0 : Sl) (p1 : Int) (h : Hp) (Q : Bool → Hp → Prop) : fnD a5 Try.prog 5 n5 (cB) [Value.slice p0.a p0.len p0.cap, Value.int IntKind.u64 p1] h Q = F5 p0 p1 h Q := by kernel_rfl
theorem c5 {p0 : Sl} {p1 : Int} {h : Hp} {Q : Bool → Hp → Prop} (hk : F5 p0 p1 h Q) : callP Try.prog 5 [Value.slice p0.a p0.len p0.cap, Value.int IntKind.u64 p1] (cB) h Q :=
  spec_of (prem_of prog_ok dep_ok eqs_ok rfl (by kernel_rfl)) mix_ok ((e5 p0 p1 h Q).mpr hk)
def a6 : Ann := { prom := 0, refs := [], dyn := 0, bcd := fun s => match s with | _ => none, eqs := memL eqL, cdc := cdcs, res := ress, pure := memL [] }
def n6 : An := (.seq (.reg []) (.seq (.seq (.reg []) (.cond (.seq (.reg []) .leaf) .leaf)) (.seq (.reg []) (.seq (.reg []) .leaf))))
/-- consols/consolslaw4.SumChains -/
def F6 (p0 : Int) (p1 : Int) (p2 : Sl) (h : Hp) (Q : Bool → Hp → Prop) : Prop :=
  condP (decide ((↑p2.len : Int) > (200 : Int))) (Q true h)
    (callP Try.prog (21 : Nat) [Value.int IntKind.u64 p0, Value.slice p2.a p2.len p2.cap] (cI IntKind.u64) h fun (n1 : Int) (h1 : Hp) =>
      callP Try.prog (21 : Nat) [Value.int IntKind.u64 p1, Value.slice p2.a p2.len p2.cap] (cI IntKind.u64) h1 fun (n2 : Int) (h2 : Hp) =>
        condP ((n1 == n2) == (p0 == p1)) (callP Try.prog (19 : Nat) [] cB h2 fun (t1 : Bool) (h3 : Hp) => Q t1 h3) (Q false h2))
theorem e6 (p0 : Int) (p1 : Int) (p2 : Sl) (h : Hp) (Q : Bool → Hp → Prop) : fnD a6 Try.prog 6 n6 (cB) [Value.int IntKind.u64 p0, Value.int IntKind.u64 p1, Value.slice p2.a p2.len p2.cap] h Q = F6 p0 p1 p2 h Q := by kernel_rfl
theorem c6 {p0 : Int} {p1 : Int} {p2 : Sl} {h : Hp} {Q : Bool → Hp → Prop} (hk : F6 p0 p1 p2 h Q) : callP Try.prog 6 [Value.int IntKind.u64 p0, Value.int IntKind.u64 p1, Value.slice p2.a p2.len p2.cap] (cB) h Q :=
  spec_of (prem_of prog_ok dep_ok eqs_ok rfl (by kernel_rfl)) mix_ok ((e6 p0 p1 p2 h Q).mpr hk)
def a7 : Ann := { prom := 0, refs := [], dyn := 0, bcd := fun s => match s with | _ => none, eqs := memL eqL, cdc := cdcs, res := ress, pure := memL [] }
def n7 : An := (.seq (.reg []) (.seq (.join [(22, false, cB)] 8384512 (.reg []) (.cond (.seq (.reg []) .leaf) .leaf)) (.seq (.reg []) (.seq (.seq (.reg []) (.block (.loop [(6, false, cI .i64)] 2251799780130896 (.seq (.join [(32, false, cB)] 8556380160 (.reg []) (.cond .leaf .leaf)) (.seq (.block (.seq (.seq (.reg []) (.cond (.seq (.reg []) .leaf) .leaf)) (.seq (.reg []) (.cond (.seq (.reg []) .leaf) .leaf)))) (.reg [])))))) (.seq (.reg []) (.seq (.seq (.reg []) (.cond (.seq (.reg []) .leaf) .leaf)) (.seq (.seq (.reg []) (.block (.loop [(7, false, cI .i64)] 9671406520888236378686352 (.seq (.join [(63, false, cB)] 18410715276690587648 (.reg []) (.cond .leaf .leaf)) (.seq (.block (.seq (.reg []) (.join [(82, false, cB)] 9669045373675598575042560 (.reg [(0, []), (1, []), (2, []), (3, []), (5, []), (6, []), (7, []), (4, []), (8, []), (9, []), (10, []), (11, [])]) (.cond (.seq (.reg []) .leaf) .leaf)))) (.reg [])))))) (.seq (.reg []) (.seq (.reg []) .leaf)))))))))
/-- consols/consolslaw8.MailOrder -/
def F7 (p0 : Int) (p1 : Sl) (h : Hp) (Q : Bool → Hp → Prop) : Prop :=
  joinP
    (fun (t1 : Bool) (h1 : Hp) =>
      condP t1 (Q true h1)
        (callP Try.prog (23 : Nat) [Value.int IntKind.i64 p0] cP h1 fun (p1_1 : Option Addr) (h2 : Hp) =>
          loopP (0 : Int) h2 fun (J1 : Int → Hp → Prop) (n1 : Int) (h3 : Hp) =>
            joinP
              (fun (t2 : Bool) (h4 : Hp) =>
                condP t2
                  (idxP p1.a p1.len n1 fun (a1 : Addr) =>
                    loadP cSl (a1.add (n1.toNat * (1 : Nat))) h4 fun (s1 : Sl) =>
                      condP (decide ((↑s1.len : Int) > (50 : Int))) (Q true h4)
                        (idxP p1.a p1.len n1 fun (a2 : Addr) =>
                          loadP cSl (a2.add (n1.toNat * (1 : Nat))) h4 fun (s2 : Sl) =>
                            callP Try.prog (24 : Nat) [Value.pointer p1_1, Value.slice s2.a s2.len s2.cap] cB h4 fun (t3 : Bool) (h5 : Hp) => condP (!t3 == decide (n1 < p0)) (Q false h5) (J1 (IntKind.i64.wrap (n1 + (1 : Int))) h5)))
                  (callP Try.prog (25 : Nat) [Value.pointer p1_1] (tupC []) h4 fun (u1 : PUnit) (h6 : Hp) =>
                    callP Try.prog (24 : Nat) [Value.pointer p1_1, Value.slice none (0 : Nat) (0 : Nat)] cB h6 fun (t4 : Bool) (h7 : Hp) =>
                      condP t4 (Q false h7)
                        (loopP (0 : Int) h7 fun (J2 : Int → Hp → Prop) (n2 : Int) (h8 : Hp) =>
                          joinP
                            (fun (t5 : Bool) (h9 : Hp) =>
                              condP t5
                                (callP Try.prog (26 : Nat) [Value.pointer p1_1] (tupC [cSl, cB]) h9 fun (z1 : Sl × Bool) (h10 : Hp) =>
                                  joinP (fun (t6 : Bool) (h11 : Hp) => condP t6 (Q false h11) (J2 (IntKind.i64.wrap (n2 + (1 : Int))) h11)) fun (J3 : Bool → Hp → Prop) =>
                                    condP (!z1.snd) (J3 true h10)
                                      (idxP p1.a p1.len n2 fun (a3 : Addr) =>
                                        strP z1.fst.a z1.fst.len h10 fun (u2 : ByteArray) => loadP cSl (a3.add (n2.toNat * (1 : Nat))) h10 fun (s3 : Sl) => strP s3.a s3.len h10 fun (u3 : ByteArray) => J3 (!strEq u2 u3) h10))
                                (callP Try.prog (26 : Nat) [Value.pointer p1_1] (tupC [cSl, cB]) h9 fun (z2 : Sl × Bool) (h12 : Hp) =>
                                  condP (!z2.snd) (condP (!p1_1.isNone) (callP Try.prog (27 : Nat) [] cB h12 fun (t7 : Bool) (h13 : Hp) => Q t7 h13) (Q false h12)) (Q false h12)))
                            fun (J4 : Bool → Hp → Prop) => condP (decide (n2 < (↑p1.len : Int))) (J4 (decide (n2 < p0)) h8) (J4 false h8))))
              fun (J5 : Bool → Hp → Prop) => condP (!p1_1.isNone) (J5 (decide (n1 < (↑p1.len : Int))) h3) (J5 false h3)))
    fun (J6 : Bool → Hp → Prop) => condP (decide (p0 < (1 : Int))) (J6 true h) (condP (decide (p0 > (30 : Int))) (J6 true h) (J6 (decide ((↑p1.len : Int) > (40 : Int))) h))
theorem e7 (p0 : Int) (p1 : Sl) (h : Hp) (Q : Bool → Hp → Prop) : fnD a7 Try.prog 7 n7 (cB) [Value.int IntKind.i64 p0, Value.slice p1.a p1.len p1.cap] h Q = F7 p0 p1 h Q := by kernel_rfl
theorem c7 {p0 : Int} {p1 : Sl} {h : Hp} {Q : Bool → Hp → Prop} (hk : F7 p0 p1 h Q) : callP Try.prog 7 [Value.int IntKind.i64 p0, Value.slice p1.a p1.len p1.cap] (cB) h Q :=
  spec_of (prem_of prog_ok dep_ok eqs_ok rfl (by kernel_rfl)) mix_ok ((e7 p0 p1 h Q).mpr hk)
def a8 : Ann := { prom := 0, refs := [], dyn := 0, bcd := fun s => match s with | _ => none, eqs := memL eqL, cdc := cdcs, res := ress, pure := memL [] }
def n8 : An := (.seq (.reg []) (.seq (.seq (.reg []) (.cond (.seq (.reg []) .leaf) .leaf)) (.seq (.reg []) (.seq (.reg []) (.seq (.seq (.reg []) (.block (.loop [(3, false, cSl), (4, false, cI .i64), (5, false, cI .i64), (6, false, cI .i64)] 17592185520376 (.seq (.seq (.reg []) (.cond .leaf .leaf)) (.seq (.block (.seq (.reg []) (.join [(4, false, cI .i64), (5, false, cI .i64)] 1099444518960 (.seq (.reg []) (.cond (.seq (.reg []) (.seq (.reg []) (.seq (.reg []) (.cond (.reg []) .leaf)))) .leaf)) (.reg [])))) (.reg [])))))) (.seq (.reg []) (.seq (.seq (.reg []) (.cond (.seq (.reg []) .leaf) .leaf)) (.seq (.reg []) (.seq (.seq (.reg []) (.block (.loop [(11, false, cI .i64), (12, false, cI .i64)] 2417777852252963511269376 (.seq (.seq (.reg []) (.cond .leaf .leaf)) (.seq (.blockJ [(11, false, cI .i64)] 2413129272746388704258048 (.seq (.reg []) (.seq (.reg []) (.cond (.reg []) .leaf)))) (.reg [])))))) (.seq (.reg []) .leaf))))))))))
/-- consols/consolslaw8.MailFirsts -/
def F8 (p0 : Sl) (h : Hp) (Q : Bool → Hp → Prop) : Prop :=
  condP (decide ((↑p0.len : Int) > (8 : Int))) (Q true h)
    (loopP ({ a := none, len := (0 : Nat), cap := (0 : Nat) : Sl }, (-1 : Int), (0 : Int), (0 : Int)) h fun (J1 : Sl × Int × Int × Int → Hp → Prop) (z1 : Sl × Int × Int × Int) (h1 : Hp) =>
      condP (decide (z1.snd.snd.snd < (↑p0.len : Int)))
        (callP Try.prog (23 : Nat) [Value.int IntKind.i64 (2 : Int)] cP h1 fun (p1 : Option Addr) (h2 : Hp) =>
          joinP
            (fun (z2 : Int × Int) (h3 : Hp) =>
              allocP (Obj.cells { toList := [Value.pointer p1] : Array Value } (35 : Nat)) h3 fun (k1 : Nat) (h4 : Hp) =>
                appendP cP (35 : Nat) (8 : Nat) z1.fst.a z1.fst.len z1.fst.cap (some { block := k1, off := (0 : Nat) : Addr }) (1 : Nat) h4 fun (p2 : Option Addr) (k2 k3 : Nat) (h5 : Hp) =>
                  J1 ({ a := p2, len := k2, cap := k3 : Sl }, z2.fst, z2.snd, IntKind.i64.wrap (z1.snd.snd.snd + (1 : Int))) h5)
            fun (J2 : Int × Int → Hp → Prop) =>
            idxP p0.a p0.len z1.snd.snd.snd fun (a1 : Addr) =>
              loadP cB (a1.add (z1.snd.snd.snd.toNat * (1 : Nat))) h2 fun (t1 : Bool) =>
                condP t1
                  (allocP (Obj.cells { toList := [Value.int IntKind.u8 (IntKind.u8.wrap z1.snd.snd.snd)] : Array Value } (5 : Nat)) h2 fun (k4 : Nat) (h6 : Hp) =>
                    callP Try.prog (24 : Nat) [Value.pointer p1, Value.slice (some { block := k4, off := (0 : Nat) : Addr }) (1 : Nat) (1 : Nat)] cB h6 fun (t2 : Bool) (h7 : Hp) =>
                      condP (decide (z1.snd.fst < (0 : Int))) (J2 (z1.snd.snd.snd, IntKind.i64.wrap (z1.snd.snd.fst + (1 : Int))) h7) (J2 (z1.snd.fst, IntKind.i64.wrap (z1.snd.snd.fst + (1 : Int))) h7))
                  (J2 (z1.snd.fst, z1.snd.snd.fst) h2))
        (callP Try.prog (28 : Nat) [Value.slice z1.fst.a z1.fst.len z1.fst.cap] (tupC [cSl, cI IntKind.i64, cB]) h1 fun (z3 : Sl × Int × Bool) (h8 : Hp) =>
          condP (decide (z1.snd.fst < (0 : Int)))
            (condP (!z3.snd.snd) (condP (z3.snd.fst == (0 : Int)) (condP ((↑z3.fst.len : Int) == (0 : Int)) (callP Try.prog (27 : Nat) [] cB h8 fun (t3 : Bool) (h9 : Hp) => Q t3 h9) (Q false h8)) (Q false h8)) (Q false h8))
            (loopP ((1 : Int), (0 : Int)) h8 fun (J3 : Int × Int → Hp → Prop) (z4 : Int × Int) (h10 : Hp) =>
              condP (decide (z4.snd < (↑p0.len : Int)))
                (joinP (fun (n1 : Int) (h11 : Hp) => J3 (n1, IntKind.i64.wrap (z4.snd + (1 : Int))) h11) fun (J4 : Int → Hp → Prop) =>
                  callP Try.prog (28 : Nat) [Value.slice z1.fst.a z1.fst.len z1.fst.cap] (tupC [cSl, cI IntKind.i64, cB]) h10 fun (z5 : Sl × Int × Bool) (h12 : Hp) =>
                    condP z5.snd.snd (J4 (IntKind.i64.wrap (z4.fst + (1 : Int))) h12) (J4 z4.fst h12))
                (condP z3.snd.snd
                  (condP (z3.snd.fst == z1.snd.fst)
                    (condP ((↑z3.fst.len : Int) == (1 : Int))
                      (idxP z3.fst.a z3.fst.len (0 : Int) fun (a2 : Addr) =>
                        loadP (cI IntKind.u8) (a2.add (0 : Nat)) h10 fun (n2 : Int) =>
                          condP (IntKind.i64.wrap n2 == z1.snd.fst) (condP (z4.fst == z1.snd.snd.fst) (callP Try.prog (27 : Nat) [] cB h10 fun (t4 : Bool) (h13 : Hp) => Q t4 h13) (Q false h10)) (Q false h10))
                      (Q false h10))
                    (Q false h10))
                  (Q false h10)))))
theorem e8 (p0 : Sl) (h : Hp) (Q : Bool → Hp → Prop) : fnD a8 Try.prog 8 n8 (cB) [Value.slice p0.a p0.len p0.cap] h Q = F8 p0 h Q := by kernel_rfl
theorem c8 {p0 : Sl} {h : Hp} {Q : Bool → Hp → Prop} (hk : F8 p0 h Q) : callP Try.prog 8 [Value.slice p0.a p0.len p0.cap] (cB) h Q :=
  spec_of (prem_of prog_ok dep_ok eqs_ok rfl (by kernel_rfl)) mix_ok ((e8 p0 h Q).mpr hk)
def a9 : Ann := { prom := 0, refs := [], dyn := 0, bcd := fun s => match s with | _ => none, eqs := memL eqL, cdc := cdcs, res := ress, pure := memL [] }
def n9 : An := (.seq (.reg []) (.seq (.join [(20, false, cB)] 2088960 (.reg []) (.cond (.seq (.reg []) .leaf) .leaf)) (.seq (.reg []) (.seq (.seq (.reg []) (.block (.loop [(7, false, cI .i64)] 140737471578256 (.seq (.join [(31, false, cB)] 4278190080 (.reg []) (.cond .leaf .leaf)) (.seq (.block (.seq (.reg [(0, []), (1, []), (2, []), (3, []), (6, []), (7, []), (8, []), (9, []), (4, []), (10, []), (5, [10]), (11, []), (12, [])]) (.cond (.seq (.reg []) .leaf) .leaf))) (.reg [])))))) (.seq (.seq (.reg []) (.block (.loop [(8, false, cI .i64)] 19342813113693329306951440 (.seq (.join [(54, false, cB)] 35888059530608640 (.reg []) (.cond .leaf .leaf)) (.seq (.block (.seq (.reg []) (.seq (.reg []) (.join [(83, false, cB)] 19305034181971109633589248 (.reg []) (.cond (.seq (.reg []) .leaf) .leaf))))) (.reg [])))))) (.seq (.reg []) .leaf))))))
/-- consols/consolslaw9.KeepPlays -/
def F9 (p0 : Sl) (p1 : Sl) (h : Hp) (Q : Bool → Hp → Prop) : Prop :=
  joinP
    (fun (t1 : Bool) (h1 : Hp) =>
      condP t1 (Q true h1)
        (callP Try.prog (29 : Nat) [] cP h1 fun (p1_1 : Option Addr) (h2 : Hp) =>
          allocP (Obj.cells { toList := [Value.slice none (0 : Nat) (0 : Nat)] : Array Value } (53 : Nat)) h2 fun (k1 : Nat) (h3 : Hp) =>
            loopP (0 : Int) h3 fun (J1 : Int → Hp → Prop) (n1 : Int) (h4 : Hp) =>
              joinP
                (fun (t2 : Bool) (h5 : Hp) =>
                  condP t2
                    (idxP p0.a p0.len n1 fun (a1 : Addr) =>
                      idxP p0.a p0.len n1 fun (a2 : Addr) =>
                        loadP cMsg (a1.add (n1.toNat * (7 : Nat))) h5 fun (x1 : Msg) =>
                          loadP cMsg (a2.add (n1.toNat * (7 : Nat))) h5 fun (x2 : Msg) =>
                            callP Try.prog (30 : Nat)
                              [Value.pointer p1_1,
                                Value.agg
                                  {
                                    toList :=
                                      [Value.int IntKind.i64 x1.Kind, Value.int IntKind.i64 x1.F_0, Value.int IntKind.i64 x1.F_1, Value.int IntKind.i64 x1.F_2, Value.int IntKind.i64 x1.F_3, Value.int IntKind.i64 x1.F_4,
                                        Value.int IntKind.i64 x1.F_5] :
                                    Array Value }]
                              cFrame h5 fun (x3 : Frame) (h6 : Hp) =>
                              (h6.rds (a2.add (n1.toNat * (7 : Nat)))
                                    [Value.int IntKind.i64 x2.Kind, Value.int IntKind.i64 x2.F_0, Value.int IntKind.i64 x2.F_1, Value.int IntKind.i64 x2.F_2, Value.int IntKind.i64 x2.F_3, Value.int IntKind.i64 x2.F_4,
                                      Value.int IntKind.i64 x2.F_5] ∧
                                  True) ∧
                                callP Try.prog (31 : Nat)
                                  [Value.pointer (some { block := k1, off := (0 : Nat) : Addr }),
                                    Value.agg
                                      {
                                        toList :=
                                          [Value.int IntKind.i64 x2.Kind, Value.int IntKind.i64 x2.F_0, Value.int IntKind.i64 x2.F_1, Value.int IntKind.i64 x2.F_2, Value.int IntKind.i64 x2.F_3, Value.int IntKind.i64 x2.F_4,
                                            Value.int IntKind.i64 x2.F_5] :
                                        Array Value }]
                                  cFrame h6 fun (x4 : Frame) (h7 : Hp) =>
                                  condP
                                    (!(x3.Seq == x4.Seq &&
                                        (x3.Msg_Kind == x4.Msg_Kind &&
                                          (x3.Msg_F_0 == x4.Msg_F_0 && (x3.Msg_F_1 == x4.Msg_F_1 && (x3.Msg_F_2 == x4.Msg_F_2 && (x3.Msg_F_3 == x4.Msg_F_3 && (x3.Msg_F_4 == x4.Msg_F_4 && (x3.Msg_F_5 == x4.Msg_F_5 && true)))))))))
                                    (Q false h7) (J1 (IntKind.i64.wrap (n1 + (1 : Int))) h7))
                    (loopP (0 : Int) h5 fun (J2 : Int → Hp → Prop) (n2 : Int) (h8 : Hp) =>
                      joinP
                        (fun (t3 : Bool) (h9 : Hp) =>
                          condP t3
                            (idxP p1.a p1.len n2 fun (a3 : Addr) =>
                              loadP (cI IntKind.i64) (a3.add (n2.toNat * (1 : Nat))) h9 fun (n3 : Int) =>
                                callP Try.prog (32 : Nat) [Value.pointer p1_1, Value.int IntKind.i64 n3] (tupC [cSl, cB]) h9 fun (z1 : Sl × Bool) (h10 : Hp) =>
                                  idxP p1.a p1.len n2 fun (a4 : Addr) =>
                                    loadP (cI IntKind.i64) (a4.add (n2.toNat * (1 : Nat))) h10 fun (n4 : Int) =>
                                      callP Try.prog (33 : Nat) [Value.pointer (some { block := k1, off := (0 : Nat) : Addr }), Value.int IntKind.i64 n4] (tupC [cSl, cB]) h10 fun (z2 : Sl × Bool) (h11 : Hp) =>
                                        joinP (fun (t4 : Bool) (h12 : Hp) => condP t4 (Q false h12) (J2 (IntKind.i64.wrap (n2 + (1 : Int))) h12)) fun (J3 : Bool → Hp → Prop) =>
                                          callP Try.prog (34 : Nat) [Value.slice z1.fst.a z1.fst.len z1.fst.cap, Value.slice z2.fst.a z2.fst.len z2.fst.cap] cB h11 fun (t5 : Bool) (h13 : Hp) =>
                                            condP (!t5) (J3 true h13) (J3 (!z1.snd == z2.snd) h13))
                            (condP (!p1_1.isNone)
                              (callP Try.prog (35 : Nat) [Value.pointer p1_1] (cI IntKind.i64) h9 fun (n5 : Int) (h14 : Hp) =>
                                callP Try.prog (36 : Nat) [Value.pointer (some { block := k1, off := (0 : Nat) : Addr })] (cI IntKind.i64) h14 fun (n6 : Int) (h15 : Hp) =>
                                  condP (n5 == n6) (callP Try.prog (37 : Nat) [] cB h15 fun (t6 : Bool) (h16 : Hp) => Q t6 h16) (Q false h15))
                              (Q false h9)))
                        fun (J4 : Bool → Hp → Prop) => condP (!p1_1.isNone) (J4 (decide (n2 < (↑p1.len : Int))) h8) (J4 false h8)))
                fun (J5 : Bool → Hp → Prop) => condP (!p1_1.isNone) (J5 (decide (n1 < (↑p0.len : Int))) h4) (J5 false h4)))
    fun (J6 : Bool → Hp → Prop) => condP (decide ((↑p0.len : Int) > (200 : Int))) (J6 true h) (J6 (decide ((↑p1.len : Int) > (40 : Int))) h)
theorem e9 (p0 : Sl) (p1 : Sl) (h : Hp) (Q : Bool → Hp → Prop) : fnD a9 Try.prog 9 n9 (cB) [Value.slice p0.a p0.len p0.cap, Value.slice p1.a p1.len p1.cap] h Q = F9 p0 p1 h Q := by kernel_rfl
theorem c9 {p0 : Sl} {p1 : Sl} {h : Hp} {Q : Bool → Hp → Prop} (hk : F9 p0 p1 h Q) : callP Try.prog 9 [Value.slice p0.a p0.len p0.cap, Value.slice p1.a p1.len p1.cap] (cB) h Q :=
  spec_of (prem_of prog_ok dep_ok eqs_ok rfl (by kernel_rfl)) mix_ok ((e9 p0 p1 h Q).mpr hk)
def a10 : Ann := { prom := 0, refs := [], dyn := 0, bcd := fun s => match s with | _ => none, eqs := memL eqL, cdc := cdcs, res := ress, pure := memL [] }
def n10 : An := (.seq (.reg []) (.seq (.join [(26, false, cB)] 134209536 (.reg []) (.cond (.seq (.reg []) .leaf) .leaf)) (.seq (.reg []) (.seq (.seq (.reg []) (.block (.loop [(6, false, cI .i64)] 4397778075712 (.seq (.join [(34, false, cB)] 34091302912 (.reg []) (.cond .leaf .leaf)) (.seq (.block (.reg [])) (.reg [])))))) (.seq (.reg []) (.seq (.reg []) (.seq (.reg []) (.seq (.join [(72, false, cB)] 9444660908145252499456 (.reg []) (.cond (.seq (.reg []) .leaf) .leaf)) (.seq (.seq (.reg []) (.cond (.seq (.reg []) .leaf) .leaf)) (.seq (.seq (.reg []) (.block (.loop [(12, false, cI .i64)] 20769187431721458874892726967472144 (.seq (.seq (.reg []) (.cond .leaf .leaf)) (.seq (.block (.join [(113, false, cB)] 20769187279396805603449450954489856 (.reg []) (.cond (.seq (.reg []) .leaf) .leaf))) (.reg [])))))) (.seq (.reg []) .leaf)))))))))))
/-- consols/consolslaw9.KeepLast -/
def F10 (p0 : Int) (p1 : Int) (h : Hp) (Q : Bool → Hp → Prop) : Prop :=
  joinP
    (fun (t1 : Bool) (h1 : Hp) =>
      condP t1 (Q true h1)
        (callP Try.prog (29 : Nat) [] cP h1 fun (p1_1 : Option Addr) (h2 : Hp) =>
          loopP (0 : Int) h2 fun (J1 : Int → Hp → Prop) (n1 : Int) (h3 : Hp) =>
            joinP
              (fun (t2 : Bool) (h4 : Hp) =>
                condP t2
                  (callP Try.prog (30 : Nat)
                    [Value.pointer p1_1,
                      Value.agg
                        {
                          toList :=
                            [Value.int IntKind.i64 (18 : Int), Value.int IntKind.i64 n1, Value.int IntKind.i64 (0 : Int), Value.int IntKind.i64 (0 : Int), Value.int IntKind.i64 (0 : Int), Value.int IntKind.i64 (0 : Int),
                              Value.int IntKind.i64 (0 : Int)] :
                          Array Value }]
                    cFrame h4 fun (x1 : Frame) (h5 : Hp) => J1 (IntKind.i64.wrap (n1 + (1 : Int))) h5)
                  (callP Try.prog (32 : Nat) [Value.pointer p1_1, Value.int IntKind.i64 (IntKind.i64.wrap (IntKind.i64.wrap (p0 + (1 : Int)) - p1))] (tupC [cSl, cB]) h4 fun (z1 : Sl × Bool) (h6 : Hp) =>
                    callP Try.prog (32 : Nat) [Value.pointer none, Value.int IntKind.i64 (1 : Int)] (tupC [cSl, cB]) h6 fun (z2 : Sl × Bool) (h7 : Hp) =>
                      joinP
                        (fun (t3 : Bool) (h8 : Hp) =>
                          condP t3 (Q false h8)
                            (condP (!z1.snd) (condP ((↑z1.fst.len : Int) == (0 : Int)) (callP Try.prog (37 : Nat) [] cB h8 fun (t4 : Bool) (h9 : Hp) => Q t4 h9) (Q false h8))
                              (loopP (0 : Int) h8 fun (J2 : Int → Hp → Prop) (n2 : Int) (h10 : Hp) =>
                                condP (decide (n2 < (↑z1.fst.len : Int)))
                                  (joinP (fun (t5 : Bool) (h11 : Hp) => condP t5 (Q false h11) (J2 (IntKind.i64.wrap (n2 + (1 : Int))) h11)) fun (J3 : Bool → Hp → Prop) =>
                                    idxP z1.fst.a z1.fst.len n2 fun (a1 : Addr) =>
                                      loadP (cI IntKind.i64) ((a1.add (n2.toNat * (8 : Nat))).add (0 : Nat)) h10 fun (n3 : Int) =>
                                        condP (n3 != IntKind.i64.wrap (IntKind.i64.wrap (IntKind.i64.wrap (p0 - p1) + n2) + (1 : Int))) (J3 true h10)
                                          (idxP z1.fst.a z1.fst.len n2 fun (a2 : Addr) =>
                                            atP (6 : Nat) (0 : Int)
                                              (loadP (cI IntKind.i64) { block := (a2.add (n2.toNat * (8 : Nat))).block, off := (a2.add (n2.toNat * (8 : Nat))).off + (1 : Nat) + (1 : Nat) : Addr } h10 fun (n4 : Int) =>
                                                J3 (n4 != IntKind.i64.wrap (IntKind.i64.wrap (p0 - p1) + n2)) h10)))
                                  (condP ((↑z1.fst.len : Int) == p1) (callP Try.prog (37 : Nat) [] cB h10 fun (t6 : Bool) (h12 : Hp) => Q t6 h12) (Q false h10)))))
                        fun (J4 : Bool → Hp → Prop) =>
                        condP z2.snd (J4 true h7)
                          (callP Try.prog (35 : Nat) [Value.pointer none] (cI IntKind.i64) h7 fun (n5 : Int) (h13 : Hp) =>
                            condP (n5 != (0 : Int)) (J4 true h13) (condP (decide (p1 ≤ p0)) (J4 (!z1.snd == decide (p1 ≤ (64 : Int))) h13) (J4 (!z1.snd == false) h13)))))
              fun (J5 : Bool → Hp → Prop) => condP (!p1_1.isNone) (J5 (decide (n1 < p0)) h3) (J5 false h3)))
    fun (J6 : Bool → Hp → Prop) => condP (decide (p0 < (0 : Int))) (J6 true h) (condP (decide (p0 > (300 : Int))) (J6 true h) (condP (decide (p1 < (0 : Int))) (J6 true h) (J6 (decide (p1 > (300 : Int))) h)))
theorem e10 (p0 : Int) (p1 : Int) (h : Hp) (Q : Bool → Hp → Prop) : fnD a10 Try.prog 10 n10 (cB) [Value.int IntKind.i64 p0, Value.int IntKind.i64 p1] h Q = F10 p0 p1 h Q := by kernel_rfl
theorem c10 {p0 : Int} {p1 : Int} {h : Hp} {Q : Bool → Hp → Prop} (hk : F10 p0 p1 h Q) : callP Try.prog 10 [Value.int IntKind.i64 p0, Value.int IntKind.i64 p1] (cB) h Q :=
  spec_of (prem_of prog_ok dep_ok eqs_ok rfl (by kernel_rfl)) mix_ok ((e10 p0 p1 h Q).mpr hk)
def a11 : Ann := { prom := 0, refs := [], dyn := 0, bcd := fun s => match s with | _ => none, eqs := memL eqL, cdc := cdcs, res := ress, pure := memL [] }
def n11 : An := (.seq (.reg []) (.seq (.join [(30, false, cB)] 2147475456 (.reg []) (.cond (.seq (.reg []) .leaf) .leaf)) (.seq (.reg []) (.seq (.seq (.reg []) (.block (.loop [(6, false, cI .i64)] 17587891077184 (.seq (.seq (.reg []) (.cond .leaf .leaf)) (.seq (.block (.reg [])) (.reg [])))))) (.seq (.reg []) (.seq (.seq (.reg []) (.block (.loop [(9, false, cI .i64)] 1151795604700004864 (.seq (.seq (.reg []) (.cond .leaf .leaf)) (.seq (.block (.reg [])) (.reg [])))))) (.seq (.reg []) (.seq (.join [(81, false, cB)] 4835629491482221860618240 (.reg []) (.cond (.seq (.reg []) .leaf) .leaf)) (.seq (.seq (.reg []) (.block (.loop [(12, false, cI .i64)] 5192296853699124350071979630399504 (.seq (.seq (.reg []) (.cond .leaf .leaf)) (.seq (.block (.join [(111, false, cB)] 5192296549049817807185427604439040 (.reg [(0, []), (1, []), (2, []), (3, []), (5, []), (6, []), (7, []), (4, []), (8, []), (9, []), (10, []), (11, []), (12, []), (13, []), (15, []), (16, []), (17, []), (18, []), (19, []), (20, []), (14, []), (21, []), (22, []), (23, [])]) (.cond (.seq (.reg []) .leaf) .leaf))) (.reg [])))))) (.seq (.reg []) .leaf))))))))))
/-- consols/consolslaw9.KeepOwn -/
def F11 (p0 : Sl) (p1 : Int) (h : Hp) (Q : Bool → Hp → Prop) : Prop :=
  joinP
    (fun (t1 : Bool) (h1 : Hp) =>
      condP t1 (Q true h1)
        (callP Try.prog (29 : Nat) [] cP h1 fun (p1_1 : Option Addr) (h2 : Hp) =>
          loopP (0 : Int) h2 fun (J1 : Int → Hp → Prop) (n1 : Int) (h3 : Hp) =>
            condP (decide (n1 < (↑p0.len : Int)))
              (idxP p0.a p0.len n1 fun (a1 : Addr) =>
                loadP cMsg (a1.add (n1.toNat * (7 : Nat))) h3 fun (x1 : Msg) =>
                  callP Try.prog (30 : Nat)
                    [Value.pointer p1_1,
                      Value.agg
                        {
                          toList :=
                            [Value.int IntKind.i64 x1.Kind, Value.int IntKind.i64 x1.F_0, Value.int IntKind.i64 x1.F_1, Value.int IntKind.i64 x1.F_2, Value.int IntKind.i64 x1.F_3, Value.int IntKind.i64 x1.F_4,
                              Value.int IntKind.i64 x1.F_5] :
                          Array Value }]
                    cFrame h3 fun (x2 : Frame) (h4 : Hp) => J1 (IntKind.i64.wrap (n1 + (1 : Int))) h4)
              (callP Try.prog (32 : Nat) [Value.pointer p1_1, Value.int IntKind.i64 p1] (tupC [cSl, cB]) h3 fun (z1 : Sl × Bool) (h5 : Hp) =>
                loopP (0 : Int) h5 fun (J2 : Int → Hp → Prop) (n2 : Int) (h6 : Hp) =>
                  condP (decide (n2 < (↑z1.fst.len : Int)))
                    (idxP z1.fst.a z1.fst.len n2 fun (a2 : Addr) => storeP (cI IntKind.i64) ((a2.add (n2.toNat * (8 : Nat))).add (0 : Nat)) (-1 : Int) h6 fun (h7 : Hp) => J2 (IntKind.i64.wrap (n2 + (1 : Int))) h7)
                    (callP Try.prog (32 : Nat) [Value.pointer p1_1, Value.int IntKind.i64 p1] (tupC [cSl, cB]) h6 fun (z2 : Sl × Bool) (h8 : Hp) =>
                      joinP
                        (fun (t2 : Bool) (h9 : Hp) =>
                          condP t2 (Q false h9)
                            (loopP (0 : Int) h9 fun (J3 : Int → Hp → Prop) (n3 : Int) (h10 : Hp) =>
                              condP (decide (n3 < (↑z2.fst.len : Int)))
                                (joinP (fun (t3 : Bool) (h11 : Hp) => condP t3 (Q false h11) (J3 (IntKind.i64.wrap (n3 + (1 : Int))) h11)) fun (J4 : Bool → Hp → Prop) =>
                                  idxP z2.fst.a z2.fst.len n3 fun (a3 : Addr) =>
                                    loadP (cI IntKind.i64) ((a3.add (n3.toNat * (8 : Nat))).add (0 : Nat)) h10 fun (n4 : Int) =>
                                      condP (n4 != IntKind.i64.wrap (p1 + n3)) (J4 true h10)
                                        (idxP z2.fst.a z2.fst.len n3 fun (a4 : Addr) =>
                                          idxP p0.a p0.len (IntKind.i64.wrap (IntKind.i64.wrap (p1 + n3) - (1 : Int))) fun (a5 : Addr) =>
                                            loadP cMsg { block := (a4.add (n3.toNat * (8 : Nat))).block, off := (a4.add (n3.toNat * (8 : Nat))).off + (1 : Nat) : Addr } h10 fun (x3 : Msg) =>
                                              loadP cMsg (a5.add ((IntKind.i64.wrap (IntKind.i64.wrap (p1 + n3) - (1 : Int))).toNat * (7 : Nat))) h10 fun (x4 : Msg) =>
                                                J4 (!(x3.Kind == x4.Kind && (x3.F_0 == x4.F_0 && (x3.F_1 == x4.F_1 && (x3.F_2 == x4.F_2 && (x3.F_3 == x4.F_3 && (x3.F_4 == x4.F_4 && (x3.F_5 == x4.F_5 && true)))))))) h10))
                                (callP Try.prog (37 : Nat) [] cB h10 fun (t4 : Bool) (h12 : Hp) => Q t4 h12)))
                        fun (J5 : Bool → Hp → Prop) => condP (!z1.snd) (J5 true h8) (condP (!z2.snd) (J5 true h8) (J5 ((↑z2.fst.len : Int) != IntKind.i64.wrap (IntKind.i64.wrap ((↑p0.len : Int) + (1 : Int)) - p1)) h8))))))
    fun (J6 : Bool → Hp → Prop) => condP (decide ((↑p0.len : Int) < (1 : Int))) (J6 true h) (condP (decide ((↑p0.len : Int) > (64 : Int))) (J6 true h) (condP (decide (p1 < (1 : Int))) (J6 true h) (J6 (decide (p1 > (↑p0.len : Int))) h)))
theorem e11 (p0 : Sl) (p1 : Int) (h : Hp) (Q : Bool → Hp → Prop) : fnD a11 Try.prog 11 n11 (cB) [Value.slice p0.a p0.len p0.cap, Value.int IntKind.i64 p1] h Q = F11 p0 p1 h Q := by kernel_rfl
theorem c11 {p0 : Sl} {p1 : Int} {h : Hp} {Q : Bool → Hp → Prop} (hk : F11 p0 p1 h Q) : callP Try.prog 11 [Value.slice p0.a p0.len p0.cap, Value.int IntKind.i64 p1] (cB) h Q :=
  spec_of (prem_of prog_ok dep_ok eqs_ok rfl (by kernel_rfl)) mix_ok ((e11 p0 p1 h Q).mpr hk)
def a12 : Ann := { prom := 2048, refs := [(72, 11), (76, 11), (106, 11), (110, 11), (116, 11), (121, 11), (125, 11), (129, 11), (133, 11), (141, 11), (150, 11), (170, 11), (176, 11), (186, 11), (192, 11)], dyn := 0, bcd := fun s => match s with | 11 => some (cL8Act) | _ => none, eqs := memL eqL, cdc := cdcs, res := ress, pure := memL [] }
def n12 : An := (.seq (.reg []) (.seq (.join [(30, false, cB)] 2139095040 (.reg []) (.cond (.seq (.reg []) .leaf) .leaf)) (.seq (.reg []) (.seq (.reg []) (.seq (.seq (.reg []) (.block (.loop [(5, false, cSl), (6, false, cSl), (7, false, cI .i64)] 4611686016279905264 (.seq (.seq (.reg []) (.cond .leaf .leaf)) (.seq (.blockJ [(5, false, cSl), (6, false, cSl)] 4611685880988435312 (.seq (.reg [(0, []), (1, []), (2, []), (5, []), (6, []), (7, []), (3, []), (8, []), (4, [8]), (9, []), (10, []), (11, [])]) (.seq (.seq (.reg []) (.cond (.seq (.reg []) .leaf) .leaf)) (.seq (.reg []) (.cond (.reg []) .leaf))))) (.reg [])))))) (.seq (.seq (.reg []) (.block (.loop [(10, false, cI .i64)] 6427752177035961102167848369364650410088807363445152922205200 (.seq (.seq (.reg []) (.cond .leaf .leaf)) (.seq (.blockJ [] 6427752177035961102167848369364650410088516827225991996766224 (.seq (.reg []) (.seq (.seq (.reg []) (.cond (.seq (.reg []) .leaf) .leaf)) (.seq (.seq (.reg []) (.cond (.seq (.reg []) (.seq (.reg []) (.seq (.join [(105, false, cB)] 81127162534528110935239206895616 (.reg []) (.cond (.seq (.reg []) .leaf) .leaf)) .leaf))) .leaf)) (.seq (.join [(115, false, cB)] 82995620098142635374792152262377472 (.reg []) (.cond .leaf .leaf)) (.seq (.reg []) (.seq (.seq (.reg []) (.blockJ [(18, false, cB)] 6129982163463555433101081109655007766249004723672449024 (.seq (.reg []) (.cond (.reg [(0, []), (1, []), (2, []), (3, []), (5, []), (6, []), (8, []), (9, []), (10, []), (11, []), (13, []), (14, []), (4, []), (12, []), (7, [12]), (15, []), (16, []), (17, [])]) (.seq (.reg []) (.cond (.seq (.reg []) (.seq (.reg []) (.reg []))) (.seq (.reg []) (.cond (.seq (.reg []) (.reg [])) .leaf)))))))) (.join [(201, false, cB)] 6427746047053797638612414935976541808852077500174682606796800 (.reg [(0, []), (1, []), (2, []), (3, []), (4, []), (5, []), (6, []), (9, []), (10, []), (11, []), (12, []), (7, []), (13, []), (14, []), (15, []), (16, []), (17, []), (8, [13, 16]), (18, []), (19, [])]) (.cond (.seq (.reg []) .leaf) .leaf))))))))) (.reg [])))))) (.seq (.reg []) .leaf)))))))
/-- consols/consolslaw8.MailPlays -/
def F12 (p0 : Sl) (p1 : Sl) (h : Hp) (Q : Bool → Hp → Prop) : Prop :=
  joinP
    (fun (t1 : Bool) (h1 : Hp) =>
      condP t1 (Q true h1)
        (loopP ({ a := none, len := (0 : Nat), cap := (0 : Nat) : Sl }, { a := none, len := (0 : Nat), cap := (0 : Nat) : Sl }, (0 : Int)) h1 fun (J1 : Sl × Sl × Int → Hp → Prop) (z1 : Sl × Sl × Int) (h2 : Hp) =>
          condP (decide (z1.snd.snd < (↑p0.len : Int)))
            (joinP (fun (z2 : Sl × Sl) (h3 : Hp) => J1 (z2.fst, z2.snd, IntKind.i64.wrap (z1.snd.snd + (1 : Int))) h3) fun (J2 : Sl × Sl → Hp → Prop) =>
              idxP p0.a p0.len z1.snd.snd fun (a1 : Addr) =>
                idxP p0.a p0.len z1.snd.snd fun (a2 : Addr) =>
                  loadP (cI IntKind.i64) (a1.add (z1.snd.snd.toNat * (1 : Nat))) h2 fun (n1 : Int) =>
                    loadP (cI IntKind.i64) (a2.add (z1.snd.snd.toNat * (1 : Nat))) h2 fun (n2 : Int) =>
                      callP Try.prog (23 : Nat) [Value.int IntKind.i64 n1] cP h2 fun (p1 : Option Addr) (h4 : Hp) =>
                        (h4.rds (a2.add (z1.snd.snd.toNat * (1 : Nat))) [Value.int IntKind.i64 n2] ∧ True) ∧
                          callP Try.prog (38 : Nat) [Value.int IntKind.i64 n2] cP h4 fun (p2 : Option Addr) (h5 : Hp) =>
                            condP (!p1.isNone == p2.isNone) (Q false h5)
                              (condP (!p2.isNone)
                                (allocP (Obj.cells { toList := [Value.pointer p1] : Array Value } (35 : Nat)) h5 fun (k1 : Nat) (h6 : Hp) =>
                                  appendP cP (35 : Nat) (8 : Nat) z1.fst.a z1.fst.len z1.fst.cap (some { block := k1, off := (0 : Nat) : Addr }) (1 : Nat) h6 fun (p3 : Option Addr) (k2 k3 : Nat) (h7 : Hp) =>
                                    allocP (Obj.cells { toList := [Value.pointer p2] : Array Value } (70 : Nat)) h7 fun (k4 : Nat) (h8 : Hp) =>
                                      appendP cP (70 : Nat) (8 : Nat) z1.snd.fst.a z1.snd.fst.len z1.snd.fst.cap (some { block := k4, off := (0 : Nat) : Addr }) (1 : Nat) h8 fun (p4 : Option Addr) (k5 k6 : Nat) (h9 : Hp) =>
                                        J2 ({ a := p3, len := k2, cap := k3 : Sl }, { a := p4, len := k5, cap := k6 : Sl }) h9)
                                (J2 (z1.fst, z1.snd.fst) h5)))
            (loopP (0 : Int) h2 fun (J3 : Int → Hp → Prop) (n3 : Int) (h10 : Hp) =>
              condP (decide (n3 < (↑p1.len : Int)))
                (joinP (fun (u1 : PUnit) (h11 : Hp) => J3 (IntKind.i64.wrap (n3 + (1 : Int))) h11) fun (J4 : PUnit → Hp → Prop) =>
                  idxP p1.a p1.len n3 fun (a3 : Addr) =>
                    loadP cL8Act (a3.add (n3.toNat * (3 : Nat))) h10 fun (x1 : L8Act) =>
                      condP (decide ((↑x1.B.len : Int) > (50 : Int))) (Q true h10)
                        (condP (x1.Kind == (4 : Int))
                          (callP Try.prog (28 : Nat) [Value.slice z1.fst.a z1.fst.len z1.fst.cap] (tupC [cSl, cI IntKind.i64, cB]) h10 fun (z3 : Sl × Int × Bool) (h12 : Hp) =>
                            callP Try.prog (39 : Nat) [Value.slice z1.snd.fst.a z1.snd.fst.len z1.snd.fst.cap] (tupC [cSl, cI IntKind.i64, cB]) h12 fun (z4 : Sl × Int × Bool) (h13 : Hp) =>
                              joinP (fun (t2 : Bool) (h14 : Hp) => condP t2 (Q false h14) (J4 PUnit.unit h14)) fun (J5 : Bool → Hp → Prop) =>
                                strP z3.fst.a z3.fst.len h13 fun (u2 : ByteArray) =>
                                  strP z4.fst.a z4.fst.len h13 fun (u3 : ByteArray) => condP (!strEq u2 u3) (J5 true h13) (condP (z3.snd.fst != z4.snd.fst) (J5 true h13) (J5 (!z3.snd.snd == z4.snd.snd) h13)))
                          (joinP
                            (fun (t3 : Bool) (h15 : Hp) =>
                              condP t3 (J4 PUnit.unit h15)
                                (joinP
                                  (fun (t4 : Bool) (h16 : Hp) =>
                                    joinP (fun (t5 : Bool) (h17 : Hp) => condP t5 (Q false h17) (J4 PUnit.unit h17)) fun (J6 : Bool → Hp → Prop) =>
                                      condP (!t4) ((True ∧ True ∧ True) ∧ J6 true h16)
                                        (idxP z1.fst.a z1.fst.len x1.Box fun (a4 : Addr) =>
                                          idxP z1.snd.fst.a z1.snd.fst.len x1.Box fun (a5 : Addr) =>
                                            loadP cP (a4.add (x1.Box.toNat * (1 : Nat))) h16 fun (p5 : Option Addr) =>
                                              loadP cP (a5.add (x1.Box.toNat * (1 : Nat))) h16 fun (p6 : Option Addr) =>
                                                nilP p6 fun (a6 : Addr) =>
                                                  loadP cSl (a6.add (0 : Nat)) h16 fun (s1 : Sl) =>
                                                    callP Try.prog (42 : Nat) [Value.pointer p5] (cI IntKind.i64) h16 fun (n4 : Int) (h18 : Hp) =>
                                                      (h18.rds (a5.add (x1.Box.toNat * (1 : Nat))) [Value.pointer p6] ∧ h18.rds (a6.add (0 : Nat)) [Value.slice s1.a s1.len s1.cap] ∧ True) ∧ J6 (n4 != (↑s1.len : Int)) h18))
                                  fun (J7 : Bool → Hp → Prop) =>
                                  condP (x1.Kind == (1 : Int))
                                    (idxP z1.fst.a z1.fst.len x1.Box fun (a7 : Addr) =>
                                      idxP z1.snd.fst.a z1.snd.fst.len x1.Box fun (a8 : Addr) =>
                                        loadP cP (a7.add (x1.Box.toNat * (1 : Nat))) h15 fun (p7 : Option Addr) =>
                                          loadP cP (a8.add (x1.Box.toNat * (1 : Nat))) h15 fun (p8 : Option Addr) =>
                                            callP Try.prog (24 : Nat) [Value.pointer p7, Value.slice x1.B.a x1.B.len x1.B.cap] cB h15 fun (t6 : Bool) (h19 : Hp) =>
                                              (h19.rds (a8.add (x1.Box.toNat * (1 : Nat))) [Value.pointer p8] ∧ True) ∧
                                                callP Try.prog (40 : Nat) [Value.pointer p8, Value.slice x1.B.a x1.B.len x1.B.cap] cB h19 fun (t7 : Bool) (h20 : Hp) => J7 (t6 == t7) h20)
                                    (condP (x1.Kind == (2 : Int))
                                      (idxP z1.fst.a z1.fst.len x1.Box fun (a9 : Addr) =>
                                        loadP cP (a9.add (x1.Box.toNat * (1 : Nat))) h15 fun (p9 : Option Addr) =>
                                          callP Try.prog (26 : Nat) [Value.pointer p9] (tupC [cSl, cB]) h15 fun (z5 : Sl × Bool) (h21 : Hp) =>
                                            idxP z1.snd.fst.a z1.snd.fst.len x1.Box fun (a10 : Addr) =>
                                              loadP cP (a10.add (x1.Box.toNat * (1 : Nat))) h21 fun (p10 : Option Addr) =>
                                                callP Try.prog (41 : Nat) [Value.pointer p10] (tupC [cSl, cB]) h21 fun (z6 : Sl × Bool) (h22 : Hp) =>
                                                  strP z5.fst.a z5.fst.len h22 fun (u4 : ByteArray) => strP z6.fst.a z6.fst.len h22 fun (u5 : ByteArray) => condP (strEq u4 u5) (J7 (z5.snd == z6.snd) h22) (J7 false h22))
                                      (condP (x1.Kind == (3 : Int))
                                        (idxP z1.fst.a z1.fst.len x1.Box fun (a11 : Addr) =>
                                          loadP cP (a11.add (x1.Box.toNat * (1 : Nat))) h15 fun (p11 : Option Addr) =>
                                            callP Try.prog (25 : Nat) [Value.pointer p11] (tupC []) h15 fun (u6 : PUnit) (h23 : Hp) =>
                                              idxP z1.snd.fst.a z1.snd.fst.len x1.Box fun (a12 : Addr) =>
                                                loadP cP (a12.add (x1.Box.toNat * (1 : Nat))) h23 fun (p12 : Option Addr) =>
                                                  nilP p12 fun (a13 : Addr) => storeP cB { block := a13.block, off := a13.off + (2 : Nat) : Addr } true h23 fun (h24 : Hp) => J7 true h24)
                                        (J7 true h15)))))
                            fun (J8 : Bool → Hp → Prop) => condP (decide (x1.Box < (0 : Int))) (J8 true h10) (J8 (decide (x1.Box ≥ (↑z1.fst.len : Int))) h10))))
                (callP Try.prog (27 : Nat) [] cB h10 fun (t8 : Bool) (h25 : Hp) => Q t8 h25))))
    fun (J9 : Bool → Hp → Prop) => condP (decide ((↑p0.len : Int) > (6 : Int))) (J9 true h) (J9 (decide ((↑p1.len : Int) > (80 : Int))) h)
theorem e12 (p0 : Sl) (p1 : Sl) (h : Hp) (Q : Bool → Hp → Prop) : fnD a12 Try.prog 12 n12 (cB) [Value.slice p0.a p0.len p0.cap, Value.slice p1.a p1.len p1.cap] h Q = F12 p0 p1 h Q := by kernel_rfl
theorem c12 {p0 : Sl} {p1 : Sl} {h : Hp} {Q : Bool → Hp → Prop} (hk : F12 p0 p1 h Q) : callP Try.prog 12 [Value.slice p0.a p0.len p0.cap, Value.slice p1.a p1.len p1.cap] (cB) h Q :=
  spec_of (prem_of prog_ok dep_ok eqs_ok rfl (by kernel_rfl)) mix_ok ((e12 p0 p1 h Q).mpr hk)
def a13 : Ann := { prom := 0, refs := [], dyn := 0, bcd := fun s => match s with | _ => none, eqs := memL eqL, cdc := cdcs, res := ress, pure := memL [] }
def n13 : An := (.seq (.reg []) (.seq (.join [(27, false, cB)] 268369920 (.reg []) (.cond (.seq (.reg []) .leaf) .leaf)) (.seq (.reg []) (.seq (.reg []) (.seq (.reg []) (.seq (.reg []) (.seq (.reg []) (.seq (.reg []) (.seq (.reg []) (.seq (.reg []) (.seq (.reg []) (.seq (.reg []) .leaf))))))))))))
/-- consols/consolslaw8.MailOwn -/
def F13 (p0 : Sl) (p1 : Int) (h : Hp) (Q : Bool → Hp → Prop) : Prop :=
  joinP
    (fun (t1 : Bool) (h1 : Hp) =>
      condP t1 (Q true h1)
        (callP Try.prog (23 : Nat) [Value.int IntKind.i64 (3 : Int)] cP h1 fun (p1_1 : Option Addr) (h2 : Hp) =>
          allocP (Obj.cells { toList := [] : Array Value } (5 : Nat)) h2 fun (k1 : Nat) (h3 : Hp) =>
            appendP (cI IntKind.u8) (5 : Nat) (1 : Nat) (some { block := k1, off := (0 : Nat) : Addr }) (0 : Nat) (0 : Nat) p0.a p0.len h3 fun (p2 : Option Addr) (k2 k3 : Nat) (h4 : Hp) =>
              callP Try.prog (24 : Nat) [Value.pointer p1_1, Value.slice p2 k2 k3] cB h4 fun (t2 : Bool) (h5 : Hp) =>
                idxP p2 k2 (0 : Int) fun (a1 : Addr) =>
                  loadP (cI IntKind.u8) (a1.add (0 : Nat)) h5 fun (n1 : Int) =>
                    idxP p2 k2 (0 : Int) fun (a2 : Addr) =>
                      storeP (cI IntKind.u8) (a2.add (0 : Nat)) (xorI IntKind.u8 n1 p1) h5 fun (h6 : Hp) =>
                        callP Try.prog (26 : Nat) [Value.pointer p1_1] (tupC [cSl, cB]) h6 fun (z1 : Sl × Bool) (h7 : Hp) =>
                          callP Try.prog (25 : Nat) [Value.pointer none] (tupC []) h7 fun (u1 : PUnit) (h8 : Hp) =>
                            callP Try.prog (26 : Nat) [Value.pointer none] (tupC [cSl, cB]) h8 fun (z2 : Sl × Bool) (h9 : Hp) =>
                              allocP (Obj.cells { toList := [Value.pointer none, Value.pointer p1_1] : Array Value } (35 : Nat)) h9 fun (k4 : Nat) (h10 : Hp) =>
                                callP Try.prog (28 : Nat) [Value.slice (some { block := k4, off := (0 : Nat) : Addr }) (2 : Nat) (2 : Nat)] (tupC [cSl, cI IntKind.i64, cB]) h10 fun (z3 : Sl × Int × Bool) (h11 : Hp) =>
                                  condP t2
                                    (condP z1.snd
                                      (strP z1.fst.a z1.fst.len h11 fun (u2 : ByteArray) =>
                                        strP p0.a p0.len h11 fun (u3 : ByteArray) =>
                                          condP (strEq u2 u3)
                                            (callP Try.prog (24 : Nat) [Value.pointer none, Value.slice p0.a p0.len p0.cap] cB h11 fun (t3 : Bool) (h12 : Hp) =>
                                              condP (!t3)
                                                (condP (!z2.snd)
                                                  (callP Try.prog (42 : Nat) [Value.pointer none] (cI IntKind.i64) h12 fun (n2 : Int) (h13 : Hp) =>
                                                    condP (n2 == (0 : Int)) (condP (z3.snd.fst == (0 : Int)) (condP (!z3.snd.snd) (callP Try.prog (27 : Nat) [] cB h13 fun (t4 : Bool) (h14 : Hp) => Q t4 h14) (Q false h13)) (Q false h13))
                                                      (Q false h13))
                                                  (Q false h12))
                                                (Q false h12))
                                            (Q false h11))
                                      (Q false h11))
                                    (Q false h11)))
    fun (J1 : Bool → Hp → Prop) => condP (decide ((↑p0.len : Int) < (1 : Int))) (J1 true h) (condP (decide ((↑p0.len : Int) > (100 : Int))) (J1 true h) (J1 (p1 == (0 : Int)) h))
theorem e13 (p0 : Sl) (p1 : Int) (h : Hp) (Q : Bool → Hp → Prop) : fnD a13 Try.prog 13 n13 (cB) [Value.slice p0.a p0.len p0.cap, Value.int IntKind.u8 p1] h Q = F13 p0 p1 h Q := by kernel_rfl
theorem c13 {p0 : Sl} {p1 : Int} {h : Hp} {Q : Bool → Hp → Prop} (hk : F13 p0 p1 h Q) : callP Try.prog 13 [Value.slice p0.a p0.len p0.cap, Value.int IntKind.u8 p1] (cB) h Q :=
  spec_of (prem_of prog_ok dep_ok eqs_ok rfl (by kernel_rfl)) mix_ok ((e13 p0 p1 h Q).mpr hk)
def a14 : Ann := { prom := 0, refs := [], dyn := 0, bcd := fun s => match s with | _ => none, eqs := memL eqL, cdc := cdcs, res := ress, pure := memL [] }
def n14 : An := (.seq (.reg []) (.seq (.seq (.reg []) (.cond (.seq (.reg []) .leaf) .leaf)) (.seq (.reg []) (.seq (.seq (.reg []) (.block (.loop [(5, false, cI .i64)] 4398046507044 (.seq (.join [(19, false, cB)] 1044480 (.reg []) (.cond .leaf .leaf)) (.seq (.block (.join [(41, false, cB)] 4398042316800 (.reg [(0, []), (1, []), (2, []), (3, []), (6, []), (7, []), (8, []), (9, []), (4, []), (10, []), (5, [10]), (11, []), (12, []), (13, []), (14, []), (16, []), (15, []), (17, []), (18, []), (19, [])]) (.cond (.seq (.reg []) .leaf) .leaf))) (.reg [])))))) (.seq (.reg [(0, []), (1, []), (2, []), (3, []), (5, []), (6, []), (7, []), (8, []), (4, [8]), (9, []), (10, []), (11, []), (12, []), (13, []), (14, [])]) .leaf)))))
/-- consols/consolslaw21.BlotPlays -/
def F14 (p0 : Sl) (h : Hp) (Q : Bool → Hp → Prop) : Prop :=
  condP (decide ((↑p0.len : Int) > (100 : Int))) (Q true h)
    (callP Try.prog (43 : Nat) [] cP h fun (p1 : Option Addr) (h1 : Hp) =>
      allocP (Obj.cells { toList := [Value.slice none (0 : Nat) (0 : Nat)] : Array Value } (85 : Nat)) h1 fun (k1 : Nat) (h2 : Hp) =>
        loopP (0 : Int) h2 fun (J1 : Int → Hp → Prop) (n1 : Int) (h3 : Hp) =>
          joinP
            (fun (t1 : Bool) (h4 : Hp) =>
              condP t1
                (joinP (fun (t2 : Bool) (h5 : Hp) => condP t2 (Q false h5) (J1 (IntKind.i64.wrap (n1 + (1 : Int))) h5)) fun (J2 : Bool → Hp → Prop) =>
                  idxP p0.a p0.len n1 fun (a1 : Addr) =>
                    idxP p0.a p0.len n1 fun (a2 : Addr) =>
                      loadP cTrade (a1.add (n1.toNat * (8 : Nat))) h4 fun (x1 : Trade) =>
                        loadP cTrade (a2.add (n1.toNat * (8 : Nat))) h4 fun (x2 : Trade) =>
                          callP Try.prog (44 : Nat)
                            [Value.pointer p1,
                              Value.agg
                                {
                                  toList :=
                                    [Value.int IntKind.i64 x1.ID, Value.int IntKind.i64 x1.Bond, Value.int IntKind.i64 x1.Buyer, Value.int IntKind.i64 x1.Seller, Value.int IntKind.i64 x1.Price, Value.int IntKind.i64 x1.Qty,
                                      Value.int IntKind.i64 x1.Ask, Value.int IntKind.i64 x1.Tick] :
                                  Array Value }]
                            cTrade h4 fun (x3 : Trade) (h6 : Hp) =>
                            (h6.rds (a2.add (n1.toNat * (8 : Nat)))
                                  [Value.int IntKind.i64 x2.ID, Value.int IntKind.i64 x2.Bond, Value.int IntKind.i64 x2.Buyer, Value.int IntKind.i64 x2.Seller, Value.int IntKind.i64 x2.Price, Value.int IntKind.i64 x2.Qty,
                                    Value.int IntKind.i64 x2.Ask, Value.int IntKind.i64 x2.Tick] ∧
                                True) ∧
                              callP Try.prog (45 : Nat)
                                [Value.pointer (some { block := k1, off := (0 : Nat) : Addr }),
                                  Value.agg
                                    {
                                      toList :=
                                        [Value.int IntKind.i64 x2.ID, Value.int IntKind.i64 x2.Bond, Value.int IntKind.i64 x2.Buyer, Value.int IntKind.i64 x2.Seller, Value.int IntKind.i64 x2.Price, Value.int IntKind.i64 x2.Qty,
                                          Value.int IntKind.i64 x2.Ask, Value.int IntKind.i64 x2.Tick] :
                                      Array Value }]
                                cTrade h6 fun (x4 : Trade) (h7 : Hp) =>
                                condP (!(x3.ID == x4.ID && (x3.Bond == x4.Bond && (x3.Buyer == x4.Buyer && (x3.Seller == x4.Seller && (x3.Price == x4.Price && (x3.Qty == x4.Qty && (x3.Ask == x4.Ask && x3.Tick == x4.Tick)))))))) (J2 true h7)
                                  (callP Try.prog (46 : Nat) [Value.pointer p1] (cI IntKind.u64) h7 fun (n2 : Int) (h8 : Hp) =>
                                    callP Try.prog (47 : Nat) [Value.pointer (some { block := k1, off := (0 : Nat) : Addr })] (cI IntKind.u64) h8 fun (n3 : Int) (h9 : Hp) => J2 (n2 != n3) h9))
                (condP (!p1.isNone)
                  (loadP cSl { block := k1, off := (0 : Nat) : Addr } h4 fun (s1 : Sl) =>
                    callP Try.prog (49 : Nat) [Value.pointer p1] cSl h4 fun (s2 : Sl) (h10 : Hp) =>
                      (h10.rds { block := k1, off := (0 : Nat) : Addr } [Value.slice s1.a s1.len s1.cap] ∧ True) ∧
                        callP Try.prog (48 : Nat) [Value.slice s2.a s2.len s2.cap, Value.slice s1.a s1.len s1.cap] cB h10 fun (t3 : Bool) (h11 : Hp) =>
                          condP t3 (callP Try.prog (50 : Nat) [] cB h11 fun (t4 : Bool) (h12 : Hp) => Q t4 h12) (Q false h11))
                  ((True ∧ True) ∧ Q false h4)))
            fun (J3 : Bool → Hp → Prop) => condP (!p1.isNone) (J3 (decide (n1 < (↑p0.len : Int))) h3) (J3 false h3))
theorem e14 (p0 : Sl) (h : Hp) (Q : Bool → Hp → Prop) : fnD a14 Try.prog 14 n14 (cB) [Value.slice p0.a p0.len p0.cap] h Q = F14 p0 h Q := by kernel_rfl
theorem c14 {p0 : Sl} {h : Hp} {Q : Bool → Hp → Prop} (hk : F14 p0 h Q) : callP Try.prog 14 [Value.slice p0.a p0.len p0.cap] (cB) h Q :=
  spec_of (prem_of prog_ok dep_ok eqs_ok rfl (by kernel_rfl)) mix_ok ((e14 p0 h Q).mpr hk)
def a15 : Ann := { prom := 0, refs := [], dyn := 0, bcd := fun s => match s with | _ => none, eqs := memL eqL, cdc := cdcs, res := ress, pure := memL [] }
def n15 : An := (.seq (.reg []) (.seq (.seq (.reg []) (.cond (.seq (.reg []) .leaf) .leaf)) (.seq (.reg []) (.seq (.seq (.reg []) (.cond (.seq (.reg []) .leaf) .leaf)) (.seq (.seq (.reg []) (.block (.loop [(5, false, cI .i64)] 36028796985409572 (.seq (.seq (.reg []) (.cond .leaf .leaf)) (.seq (.block (.join [(54, false, cB)] 36028794871480320 (.reg [(0, []), (1, []), (2, []), (4, []), (5, []), (6, []), (3, []), (7, []), (8, []), (9, []), (10, []), (11, []), (12, []), (16, []), (17, []), (18, []), (13, []), (19, []), (14, [19]), (15, []), (20, [15]), (21, []), (22, []), (23, [])]) (.cond (.seq (.reg []) .leaf) .leaf))) (.reg [])))))) (.seq (.reg []) (.seq (.seq (.reg []) (.block (.loop [(7, false, cI .i64)] 4722294425275607285888 (.seq (.join [(63, false, cB)] 18374686479671623680 (.reg []) (.cond .leaf .leaf)) (.seq (.block (.reg [])) (.reg [])))))) (.seq (.reg []) (.seq (.seq (.reg []) (.cond (.seq (.reg []) .leaf) .leaf)) (.seq (.reg []) (.seq (.reg []) (.seq (.seq (.reg []) (.cond (.seq (.reg []) .leaf) .leaf)) (.seq (.seq (.reg []) (.block (.loop [(9, false, cI .u64), (11, false, cI .i64)] 81129483672101771023254642756100 (.seq (.seq (.reg []) (.cond .leaf .leaf)) (.seq (.block (.seq (.reg []) (.seq (.reg []) (.cond (.seq (.reg []) .leaf) .leaf)))) (.reg [])))))) (.seq (.reg []) (.seq (.reg []) .leaf)))))))))))))))
/-- consols/consolslaw21.BlotHeads -/
def F15 (p0 : Sl) (h : Hp) (Q : Bool → Hp → Prop) : Prop :=
  condP (decide ((↑p0.len : Int) > (60 : Int))) (Q true h)
    (callP Try.prog (51 : Nat) [Value.slice p0.a p0.len p0.cap] cSl h fun (s1 : Sl) (h1 : Hp) =>
      callP Try.prog (52 : Nat) [Value.slice p0.a p0.len p0.cap] cSl h1 fun (s2 : Sl) (h2 : Hp) =>
        condP ((↑s1.len : Int) != (↑s2.len : Int)) (Q false h2)
          (loopP (0 : Int) h2 fun (J1 : Int → Hp → Prop) (n1 : Int) (h3 : Hp) =>
            condP (decide (n1 < (↑s1.len : Int)))
              (joinP (fun (t1 : Bool) (h4 : Hp) => condP t1 (Q false h4) (J1 (IntKind.i64.wrap (n1 + (1 : Int))) h4)) fun (J2 : Bool → Hp → Prop) =>
                idxP s1.a s1.len n1 fun (a1 : Addr) =>
                  idxP s2.a s2.len n1 fun (a2 : Addr) =>
                    loadP (cI IntKind.u64) (a1.add (n1.toNat * (1 : Nat))) h3 fun (n2 : Int) =>
                      loadP (cI IntKind.u64) (a2.add (n1.toNat * (1 : Nat))) h3 fun (n3 : Int) =>
                        condP (n2 != n3) ((True ∧ True) ∧ (True ∧ True) ∧ J2 true h3)
                          (idxP p0.a p0.len n1 fun (a3 : Addr) =>
                            idxP p0.a p0.len n1 fun (a4 : Addr) =>
                              loadP cTrade (a3.add (n1.toNat * (8 : Nat))) h3 fun (x1 : Trade) =>
                                loadP cTrade (a4.add (n1.toNat * (8 : Nat))) h3 fun (x2 : Trade) =>
                                  callP Try.prog (53 : Nat)
                                    [Value.agg
                                        {
                                          toList :=
                                            [Value.int IntKind.i64 x1.ID, Value.int IntKind.i64 x1.Bond, Value.int IntKind.i64 x1.Buyer, Value.int IntKind.i64 x1.Seller, Value.int IntKind.i64 x1.Price, Value.int IntKind.i64 x1.Qty,
                                              Value.int IntKind.i64 x1.Ask, Value.int IntKind.i64 x1.Tick] :
                                          Array Value }]
                                    cSl h3 fun (s3 : Sl) (h5 : Hp) =>
                                    (h5.rds (a4.add (n1.toNat * (8 : Nat)))
                                          [Value.int IntKind.i64 x2.ID, Value.int IntKind.i64 x2.Bond, Value.int IntKind.i64 x2.Buyer, Value.int IntKind.i64 x2.Seller, Value.int IntKind.i64 x2.Price, Value.int IntKind.i64 x2.Qty,
                                            Value.int IntKind.i64 x2.Ask, Value.int IntKind.i64 x2.Tick] ∧
                                        True) ∧
                                      strP s3.a s3.len h5 fun (u1 : ByteArray) =>
                                        callP Try.prog (54 : Nat)
                                          [Value.agg
                                              {
                                                toList :=
                                                  [Value.int IntKind.i64 x2.ID, Value.int IntKind.i64 x2.Bond, Value.int IntKind.i64 x2.Buyer, Value.int IntKind.i64 x2.Seller, Value.int IntKind.i64 x2.Price, Value.int IntKind.i64 x2.Qty,
                                                    Value.int IntKind.i64 x2.Ask, Value.int IntKind.i64 x2.Tick] :
                                                Array Value }]
                                          cSl h5 fun (s4 : Sl) (h6 : Hp) => ((strP s3.a s3.len h6 fun (u2 : ByteArray) => u2 = u1) ∧ True) ∧ strP s4.a s4.len h6 fun (u3 : ByteArray) => J2 (!strEq u1 u3) h6))
              (callP Try.prog (43 : Nat) [] cP h3 fun (p1 : Option Addr) (h7 : Hp) =>
                loopP (0 : Int) h7 fun (J3 : Int → Hp → Prop) (n4 : Int) (h8 : Hp) =>
                  joinP
                    (fun (t2 : Bool) (h9 : Hp) =>
                      condP t2
                        (idxP p0.a p0.len n4 fun (a5 : Addr) =>
                          loadP cTrade (a5.add (n4.toNat * (8 : Nat))) h9 fun (x3 : Trade) =>
                            callP Try.prog (44 : Nat)
                              [Value.pointer p1,
                                Value.agg
                                  {
                                    toList :=
                                      [Value.int IntKind.i64 x3.ID, Value.int IntKind.i64 x3.Bond, Value.int IntKind.i64 x3.Buyer, Value.int IntKind.i64 x3.Seller, Value.int IntKind.i64 x3.Price, Value.int IntKind.i64 x3.Qty,
                                        Value.int IntKind.i64 x3.Ask, Value.int IntKind.i64 x3.Tick] :
                                    Array Value }]
                              cTrade h9 fun (x4 : Trade) (h10 : Hp) => J3 (IntKind.i64.wrap (n4 + (1 : Int))) h10)
                        (callP Try.prog (49 : Nat) [Value.pointer p1] cSl h9 fun (s5 : Sl) (h11 : Hp) =>
                          callP Try.prog (51 : Nat) [Value.slice s5.a s5.len s5.cap] cSl h11 fun (s6 : Sl) (h12 : Hp) =>
                            condP ((↑s6.len : Int) != (↑p0.len : Int)) (Q false h12)
                              (callP Try.prog (49 : Nat) [Value.pointer p1] cSl h12 fun (s7 : Sl) (h13 : Hp) =>
                                condP ((↑s7.len : Int) != (↑s6.len : Int)) (Q false h13)
                                  (loopP ((0 : Int), (0 : Int)) h13 fun (J4 : Int × Int → Hp → Prop) (z1 : Int × Int) (h14 : Hp) =>
                                    condP (decide (z1.snd < (↑s6.len : Int)))
                                      (idxP s7.a s7.len z1.snd fun (a6 : Addr) =>
                                        loadP cTrade (a6.add (z1.snd.toNat * (8 : Nat))) h14 fun (x5 : Trade) =>
                                          callP Try.prog (54 : Nat)
                                            [Value.agg
                                                {
                                                  toList :=
                                                    [Value.int IntKind.i64 x5.ID, Value.int IntKind.i64 x5.Bond, Value.int IntKind.i64 x5.Buyer, Value.int IntKind.i64 x5.Seller, Value.int IntKind.i64 x5.Price, Value.int IntKind.i64 x5.Qty,
                                                      Value.int IntKind.i64 x5.Ask, Value.int IntKind.i64 x5.Tick] :
                                                  Array Value }]
                                            cSl h14 fun (s8 : Sl) (h15 : Hp) =>
                                            callP Try.prog (22 : Nat) [Value.int IntKind.u64 z1.fst, Value.slice s8.a s8.len s8.cap] (cI IntKind.u64) h15 fun (n5 : Int) (h16 : Hp) =>
                                              idxP s6.a s6.len z1.snd fun (a7 : Addr) =>
                                                loadP (cI IntKind.u64) (a7.add (z1.snd.toNat * (1 : Nat))) h16 fun (n6 : Int) => condP (n6 != n5) (Q false h16) (J4 (n5, IntKind.i64.wrap (z1.snd + (1 : Int))) h16))
                                      (condP (!p1.isNone)
                                        (callP Try.prog (46 : Nat) [Value.pointer p1] (cI IntKind.u64) h14 fun (n7 : Int) (h17 : Hp) =>
                                          condP (n7 == z1.fst)
                                            (callP Try.prog (46 : Nat) [Value.pointer none] (cI IntKind.u64) h17 fun (n8 : Int) (h18 : Hp) =>
                                              condP (n8 == (0 : Int))
                                                (callP Try.prog (49 : Nat) [Value.pointer none] cSl h18 fun (s9 : Sl) (h19 : Hp) =>
                                                  condP ((↑s9.len : Int) == (0 : Int))
                                                    (callP Try.prog (44 : Nat)
                                                      [Value.pointer none,
                                                        Value.agg
                                                          {
                                                            toList :=
                                                              [Value.int IntKind.i64 (0 : Int), Value.int IntKind.i64 (0 : Int), Value.int IntKind.i64 (0 : Int), Value.int IntKind.i64 (0 : Int), Value.int IntKind.i64 (1 : Int),
                                                                Value.int IntKind.i64 (0 : Int), Value.int IntKind.i64 (0 : Int), Value.int IntKind.i64 (0 : Int)] :
                                                            Array Value }]
                                                      cTrade h19 fun (x6 : Trade) (h20 : Hp) =>
                                                      condP
                                                        (x6.ID == (0 : Int) &&
                                                          (x6.Bond == (0 : Int) && (x6.Buyer == (0 : Int) && (x6.Seller == (0 : Int) && (x6.Price == (0 : Int) && (x6.Qty == (0 : Int) && (x6.Ask == (0 : Int) && x6.Tick == (0 : Int))))))))
                                                        (callP Try.prog (50 : Nat) [] cB h20 fun (t3 : Bool) (h21 : Hp) => Q t3 h21) (Q false h20))
                                                    (Q false h19))
                                                (Q false h18))
                                            (Q false h17))
                                        (Q false h14))))))
                    fun (J5 : Bool → Hp → Prop) => condP (!p1.isNone) (J5 (decide (n4 < (↑p0.len : Int))) h8) (J5 false h8))))
theorem e15 (p0 : Sl) (h : Hp) (Q : Bool → Hp → Prop) : fnD a15 Try.prog 15 n15 (cB) [Value.slice p0.a p0.len p0.cap] h Q = F15 p0 h Q := by kernel_rfl
theorem c15 {p0 : Sl} {h : Hp} {Q : Bool → Hp → Prop} (hk : F15 p0 h Q) : callP Try.prog 15 [Value.slice p0.a p0.len p0.cap] (cB) h Q :=
  spec_of (prem_of prog_ok dep_ok eqs_ok rfl (by kernel_rfl)) mix_ok ((e15 p0 h Q).mpr hk)
def a16 : Ann := { prom := 0, refs := [], dyn := 0, bcd := fun s => match s with | _ => none, eqs := memL eqL, cdc := cdcs, res := ress, pure := memL [] }
def n16 : An := (.seq (.reg []) (.seq (.join [(20, false, cB)] 2096896 (.reg []) (.cond (.seq (.reg []) .leaf) .leaf)) (.seq (.reg [(0, []), (2, []), (3, []), (4, []), (1, []), (5, []), (6, []), (7, [])]) (.seq (.join [(37, false, cB)] 274743689216 (.reg []) (.cond (.seq (.reg []) .leaf) .leaf)) (.seq (.seq (.reg []) (.block (.loop [(7, false, cI .i64)] 4503324749463696 (.seq (.seq (.reg []) (.cond .leaf .leaf)) (.seq (.block (.seq (.reg [(0, []), (1, []), (2, []), (4, []), (5, []), (6, []), (3, []), (7, []), (8, [])]) (.cond (.seq (.reg []) .leaf) .leaf))) (.reg [])))))) (.seq (.reg []) .leaf))))))
/-- consols/consolslaw21.BlotGrows -/
def F16 (p0 : Sl) (p1 : Int) (h : Hp) (Q : Bool → Hp → Prop) : Prop :=
  joinP
    (fun (t1 : Bool) (h1 : Hp) =>
      condP t1 (Q true h1)
        (cutP p0.len p0.cap none (some p1) fun (k1 k2 : Nat) =>
          callP Try.prog (51 : Nat) [Value.slice p0.a p0.len p0.cap] cSl h1 fun (s1 : Sl) (h2 : Hp) =>
            callP Try.prog (51 : Nat) [Value.slice (cutA p0.a k1 p0.cap (8 : Nat)) (k2 - k1) (p0.cap - k1)] cSl h2 fun (s2 : Sl) (h3 : Hp) =>
              joinP
                (fun (t2 : Bool) (h4 : Hp) =>
                  condP t2 (Q false h4)
                    (loopP (0 : Int) h4 fun (J1 : Int → Hp → Prop) (n1 : Int) (h5 : Hp) =>
                      condP (decide (n1 < p1))
                        (idxP s1.a s1.len n1 fun (a1 : Addr) =>
                          idxP s2.a s2.len n1 fun (a2 : Addr) =>
                            loadP (cI IntKind.u64) (a1.add (n1.toNat * (1 : Nat))) h5 fun (n2 : Int) =>
                              loadP (cI IntKind.u64) (a2.add (n1.toNat * (1 : Nat))) h5 fun (n3 : Int) => condP (n2 != n3) (Q false h5) (J1 (IntKind.i64.wrap (n1 + (1 : Int))) h5))
                        (callP Try.prog (50 : Nat) [] cB h5 fun (t3 : Bool) (h6 : Hp) => Q t3 h6)))
                fun (J2 : Bool → Hp → Prop) => condP ((↑s1.len : Int) != (↑p0.len : Int)) (J2 true h3) (J2 ((↑s2.len : Int) != p1) h3)))
    fun (J3 : Bool → Hp → Prop) => condP (decide ((↑p0.len : Int) > (40 : Int))) (J3 true h) (condP (decide (p1 < (0 : Int))) (J3 true h) (J3 (decide (p1 > (↑p0.len : Int))) h))
theorem e16 (p0 : Sl) (p1 : Int) (h : Hp) (Q : Bool → Hp → Prop) : fnD a16 Try.prog 16 n16 (cB) [Value.slice p0.a p0.len p0.cap, Value.int IntKind.i64 p1] h Q = F16 p0 p1 h Q := by kernel_rfl
theorem c16 {p0 : Sl} {p1 : Int} {h : Hp} {Q : Bool → Hp → Prop} (hk : F16 p0 p1 h Q) : callP Try.prog 16 [Value.slice p0.a p0.len p0.cap, Value.int IntKind.i64 p1] (cB) h Q :=
  spec_of (prem_of prog_ok dep_ok eqs_ok rfl (by kernel_rfl)) mix_ok ((e16 p0 p1 h Q).mpr hk)
def a17 : Ann := { prom := 0, refs := [], dyn := 0, bcd := fun s => match s with | _ => none, eqs := memL eqL, cdc := cdcs, res := ress, pure := memL [] }
def n17 : An := (.seq (.reg []) (.seq (.reg []) (.seq (.reg []) (.seq (.reg []) .leaf))))
/-- consols/sum.Next -/
def F17 (p0 : Int) (p1 : Int) (h : Hp) (Q : Int → Hp → Prop) : Prop :=
  (65521 : Int) ≠ (0 : Int) ∧
    (0 : Int) ≤ (16 : Int) ∧
      (65521 : Int) ≠ (0 : Int) ∧
        (0 : Int) ≤ (16 : Int) ∧
          Q
            (orI IntKind.u32
              (shlI IntKind.u32 ((IntKind.u32.wrap (shrI IntKind.u32 p0 (16 : Int) + (IntKind.u32.wrap (IntKind.u32.wrap (andI IntKind.u32 p0 (65535 : Int) + IntKind.u32.wrap p1) + (1 : Int))).tmod (65521 : Int))).tmod (65521 : Int))
                (16 : Int))
              ((IntKind.u32.wrap (IntKind.u32.wrap (andI IntKind.u32 p0 (65535 : Int) + IntKind.u32.wrap p1) + (1 : Int))).tmod (65521 : Int)))
            h
theorem e17 (p0 : Int) (p1 : Int) (h : Hp) (Q : Int → Hp → Prop) : fnD a17 Try.prog 17 n17 (cI .u32) [Value.int IntKind.u32 p0, Value.int IntKind.u8 p1] h Q = F17 p0 p1 h Q := by kernel_rfl
theorem c17 {p0 : Int} {p1 : Int} {h : Hp} {Q : Int → Hp → Prop} (hk : F17 p0 p1 h Q) : callP Try.prog 17 [Value.int IntKind.u32 p0, Value.int IntKind.u8 p1] (cI .u32) h Q :=
  spec_of (prem_of prog_ok dep_ok eqs_ok rfl (by kernel_rfl)) mix_ok ((e17 p0 p1 h Q).mpr hk)
def a18 : Ann := { prom := 0, refs := [], dyn := 0, bcd := fun s => match s with | _ => none, eqs := memL eqL, cdc := cdcs, res := ress, pure := memL [] }
def n18 : An := (.seq (.reg []) (.seq (.reg []) (.seq (.seq (.reg []) (.block (.loop [(3, false, cI .u32), (10, false, cI .i64)] 33553576 (.seq (.reg []) (.seq (.cond .leaf .leaf) (.seq (.block (.seq (.reg []) (.seq (.reg []) (.block (.loop [(3, false, cI .u32), (16, false, cI .i64)] 16711816 (.seq (.reg []) (.seq (.cond .leaf .leaf) (.seq (.block (.seq (.reg []) (.reg []))) (.reg []))))))))) (.reg []))))))) (.seq (.reg []) .leaf))))
/-- consols/sum.Of -/
def F18 (p0 : Sl) (h : Hp) (Q : Int → Hp → Prop) : Prop :=
  loopP ((0 : Int), (0 : Int)) h fun (J1 : Int × Int → Hp → Prop) (z1 : Int × Int) (h1 : Hp) =>
    condP (decide (z1.snd < (↑p0.len : Int)))
      (idxP p0.a p0.len z1.snd fun (a1 : Addr) =>
        loadP cSl (a1.add (z1.snd.toNat * (1 : Nat))) h1 fun (s1 : Sl) =>
          loopP (z1.fst, (0 : Int)) h1 fun (J2 : Int × Int → Hp → Prop) (z2 : Int × Int) (h2 : Hp) =>
            condP (decide (z2.snd < (↑s1.len : Int)))
              (idxP s1.a s1.len z2.snd fun (a2 : Addr) =>
                loadP (cI IntKind.u8) (a2.add (z2.snd.toNat * (1 : Nat))) h2 fun (n1 : Int) =>
                  callP Try.prog (17 : Nat) [Value.int IntKind.u32 z2.fst, Value.int IntKind.u8 n1] (cI IntKind.u32) h2 fun (n2 : Int) (h3 : Hp) => J2 (n2, IntKind.i64.wrap (z2.snd + (1 : Int))) h3)
              (J1 (z2.fst, IntKind.i64.wrap (z1.snd + (1 : Int))) h2))
      (Q z1.fst h1)
theorem e18 (p0 : Sl) (h : Hp) (Q : Int → Hp → Prop) : fnD a18 Try.prog 18 n18 (cI .u32) [Value.slice p0.a p0.len p0.cap] h Q = F18 p0 h Q := by kernel_rfl
theorem c18 {p0 : Sl} {h : Hp} {Q : Int → Hp → Prop} (hk : F18 p0 h Q) : callP Try.prog 18 [Value.slice p0.a p0.len p0.cap] (cI .u32) h Q :=
  spec_of (prem_of prog_ok dep_ok eqs_ok rfl (by kernel_rfl)) mix_ok ((e18 p0 h Q).mpr hk)
def a19 : Ann := { prom := 0, refs := [], dyn := 0, bcd := fun s => match s with | _ => none, eqs := memL eqL, cdc := cdcs, res := ress, pure := memL [] }
def n19 : An := (.seq (.reg []) (.seq (.reg []) .leaf))
/-- consols/consolslaw4.known -/
def F19  (h : Hp) (Q : Bool → Hp → Prop) : Prop :=
  allocP (Obj.cells { toList := [Value.int IntKind.u8 (0 : Int)] : Array Value } (5 : Nat)) h fun (k1 : Nat) (h1 : Hp) =>
    allocP (Obj.cells { toList := [Value.slice (some { block := k1, off := (0 : Nat) : Addr }) (1 : Nat) (1 : Nat)] : Array Value } (23 : Nat)) h1 fun (k2 : Nat) (h2 : Hp) =>
      callP Try.prog (18 : Nat) [Value.slice (some { block := k2, off := (0 : Nat) : Addr }) (1 : Nat) (1 : Nat)] (cI IntKind.u32) h2 fun (n1 : Int) (h3 : Hp) =>
        condP (n1 == (65537 : Int)) (callP Try.prog (18 : Nat) [Value.slice none (0 : Nat) (0 : Nat)] (cI IntKind.u32) h3 fun (n2 : Int) (h4 : Hp) => Q (n2 == (0 : Int)) h4) (Q false h3)
theorem e19  (h : Hp) (Q : Bool → Hp → Prop) : fnD a19 Try.prog 19 n19 (cB) [] h Q = F19  h Q := by kernel_rfl
theorem c19  {h : Hp} {Q : Bool → Hp → Prop} (hk : F19  h Q) : callP Try.prog 19 [] (cB) h Q :=
  spec_of (prem_of prog_ok dep_ok eqs_ok rfl (by kernel_rfl)) mix_ok ((e19  h Q).mpr hk)
def a20 : Ann := { prom := 0, refs := [], dyn := 0, bcd := fun s => match s with | _ => none, eqs := memL eqL, cdc := cdcs, res := ress, pure := memL [] }
def n20 : An := (.seq (.reg []) (.seq (.reg []) (.seq (.seq (.reg []) (.block (.loop [(3, false, cI .u32), (4, false, cI .i64)] 131064 (.seq (.seq (.reg []) (.cond .leaf .leaf)) (.seq (.block (.reg [])) (.reg [])))))) (.seq (.reg []) .leaf))))
/-- consols/consolsref4.Of -/
def F20 (p0 : Sl) (h : Hp) (Q : Int → Hp → Prop) : Prop :=
  loopP ((0 : Int), (0 : Int)) h fun (J1 : Int × Int → Hp → Prop) (z1 : Int × Int) (h1 : Hp) =>
    condP (decide (z1.snd < (↑p0.len : Int)))
      (idxP p0.a p0.len z1.snd fun (a1 : Addr) =>
        loadP (cI IntKind.u8) (a1.add (z1.snd.toNat * (1 : Nat))) h1 fun (n1 : Int) =>
          callP Try.prog (55 : Nat) [Value.int IntKind.u32 z1.fst, Value.int IntKind.u8 n1] (cI IntKind.u32) h1 fun (n2 : Int) (h2 : Hp) => J1 (n2, IntKind.i64.wrap (z1.snd + (1 : Int))) h2)
      (Q z1.fst h1)
theorem e20 (p0 : Sl) (h : Hp) (Q : Int → Hp → Prop) : fnD a20 Try.prog 20 n20 (cI .u32) [Value.slice p0.a p0.len p0.cap] h Q = F20 p0 h Q := by kernel_rfl
theorem c20 {p0 : Sl} {h : Hp} {Q : Int → Hp → Prop} (hk : F20 p0 h Q) : callP Try.prog 20 [Value.slice p0.a p0.len p0.cap] (cI .u32) h Q :=
  spec_of (prem_of prog_ok dep_ok eqs_ok rfl (by kernel_rfl)) mix_ok ((e20 p0 h Q).mpr hk)
def a21 : Ann := { prom := 0, refs := [], dyn := 0, bcd := fun s => match s with | _ => none, eqs := memL eqL, cdc := cdcs, res := ress, pure := memL [] }
def n21 : An := (.seq (.reg []) (.seq (.reg []) (.seq (.seq (.reg []) (.block (.loop [(5, false, cI .u64), (12, false, cI .i64)] 4190368 (.seq (.reg []) (.seq (.cond .leaf .leaf) (.seq (.block (.seq (.reg []) (.reg []))) (.reg []))))))) (.seq (.reg []) .leaf))))
/-- consols/sum.Chain -/
def F21 (p0 : Int) (p1 : Sl) (h : Hp) (Q : Int → Hp → Prop) : Prop :=
  loopP (xorI IntKind.u64 p0 (1469598103934665603 : Int), (0 : Int)) h fun (J1 : Int × Int → Hp → Prop) (z1 : Int × Int) (h1 : Hp) =>
    condP (decide (z1.snd < (↑p1.len : Int)))
      (idxP p1.a p1.len z1.snd fun (a1 : Addr) =>
        loadP (cI IntKind.u8) (a1.add (z1.snd.toNat * (1 : Nat))) h1 fun (n1 : Int) => J1 (IntKind.u64.wrap (xorI IntKind.u64 z1.fst (IntKind.u64.wrap n1) * (1099511628211 : Int)), IntKind.i64.wrap (z1.snd + (1 : Int))) h1)
      ((0 : Int) ≤ (29 : Int) ∧ Q (xorI IntKind.u64 z1.fst (shrI IntKind.u64 z1.fst (29 : Int))) h1)
theorem e21 (p0 : Int) (p1 : Sl) (h : Hp) (Q : Int → Hp → Prop) : fnD a21 Try.prog 21 n21 (cI .u64) [Value.int IntKind.u64 p0, Value.slice p1.a p1.len p1.cap] h Q = F21 p0 p1 h Q := by kernel_rfl
theorem c21 {p0 : Int} {p1 : Sl} {h : Hp} {Q : Int → Hp → Prop} (hk : F21 p0 p1 h Q) : callP Try.prog 21 [Value.int IntKind.u64 p0, Value.slice p1.a p1.len p1.cap] (cI .u64) h Q :=
  spec_of (prem_of prog_ok dep_ok eqs_ok rfl (by kernel_rfl)) mix_ok ((e21 p0 p1 h Q).mpr hk)
def a22 : Ann := { prom := 0, refs := [], dyn := 0, bcd := fun s => match s with | _ => none, eqs := memL eqL, cdc := cdcs, res := ress, pure := memL [] }
def n22 : An := (.seq (.reg []) (.seq (.reg []) (.seq (.seq (.reg []) (.block (.loop [(5, false, cI .u64), (6, false, cI .i64)] 8388192 (.seq (.seq (.reg []) (.cond .leaf .leaf)) (.seq (.block (.reg [])) (.reg [])))))) (.seq (.reg []) .leaf))))
/-- consols/consolsref4.Chain -/
def F22 (p0 : Int) (p1 : Sl) (h : Hp) (Q : Int → Hp → Prop) : Prop :=
  loopP (xorI IntKind.u64 p0 (1469598103934665603 : Int), (0 : Int)) h fun (J1 : Int × Int → Hp → Prop) (z1 : Int × Int) (h1 : Hp) =>
    condP (decide (z1.snd < (↑p1.len : Int)))
      (idxP p1.a p1.len z1.snd fun (a1 : Addr) =>
        loadP (cI IntKind.u8) (a1.add (z1.snd.toNat * (1 : Nat))) h1 fun (n1 : Int) => J1 (IntKind.u64.wrap (xorI IntKind.u64 z1.fst (IntKind.u64.wrap n1) * (1099511628211 : Int)), IntKind.i64.wrap (z1.snd + (1 : Int))) h1)
      ((0 : Int) ≤ (29 : Int) ∧ Q (xorI IntKind.u64 z1.fst (shrI IntKind.u64 z1.fst (29 : Int))) h1)
theorem e22 (p0 : Int) (p1 : Sl) (h : Hp) (Q : Int → Hp → Prop) : fnD a22 Try.prog 22 n22 (cI .u64) [Value.int IntKind.u64 p0, Value.slice p1.a p1.len p1.cap] h Q = F22 p0 p1 h Q := by kernel_rfl
theorem c22 {p0 : Int} {p1 : Sl} {h : Hp} {Q : Int → Hp → Prop} (hk : F22 p0 p1 h Q) : callP Try.prog 22 [Value.int IntKind.u64 p0, Value.slice p1.a p1.len p1.cap] (cI .u64) h Q :=
  spec_of (prem_of prog_ok dep_ok eqs_ok rfl (by kernel_rfl)) mix_ok ((e22 p0 p1 h Q).mpr hk)
def a23 : Ann := { prom := 0, refs := [], dyn := 0, bcd := fun s => match s with | _ => none, eqs := memL eqL, cdc := cdcs, res := ress, pure := memL [] }
def n23 : An := (.seq (.reg []) (.seq (.join [(8, false, cB)] 504 (.reg []) (.cond (.seq (.reg []) .leaf) .leaf)) (.seq (.reg []) .leaf)))
/-- consols/mail.New -/
def F23 (p0 : Int) (h : Hp) (Q : Option Addr → Hp → Prop) : Prop :=
  joinP
    (fun (t1 : Bool) (h1 : Hp) =>
      condP t1 (Q none h1)
        (makeChP p0 (24 : Nat)
          (allocP (Obj.chan p0.toNat { toList := [] : Array Value } false (0 : Nat) (0 : Nat) false) h1 fun (k1 : Nat) (h2 : Hp) =>
            allocP (Obj.cells { toList := [Value.chan (some k1), Value.bool false] : Array Value } (100 : Nat)) h2 fun (k2 : Nat) (h3 : Hp) => Q (some { block := k2, off := (0 : Nat) : Addr }) h3)))
    fun (J1 : Bool → Hp → Prop) => condP (decide (p0 < (1 : Int))) (J1 true h) (J1 (decide (p0 > (256 : Int))) h)
theorem e23 (p0 : Int) (h : Hp) (Q : Option Addr → Hp → Prop) : fnD a23 Try.prog 23 n23 (cP) [Value.int IntKind.i64 p0] h Q = F23 p0 h Q := by kernel_rfl
theorem c23 {p0 : Int} {h : Hp} {Q : Option Addr → Hp → Prop} (hk : F23 p0 h Q) : callP Try.prog 23 [Value.int IntKind.i64 p0] (cP) h Q :=
  spec_of (prem_of prog_ok dep_ok eqs_ok rfl (by kernel_rfl)) mix_ok ((e23 p0 h Q).mpr hk)
def a24 : Ann := { prom := 0, refs := [], dyn := 0, bcd := fun s => match s with | _ => none, eqs := memL eqL, cdc := cdcs, res := ress, pure := memL [] }
def n24 : An := (.seq (.reg []) (.seq (.join [(12, false, cB)] 8160 (.reg []) (.cond (.seq (.reg []) .leaf) .leaf)) (.seq (.seq (.reg []) (.reg [])) (.seq (.reg []) (.block (.cond (.seq (.reg []) .leaf) (.seq (.reg []) .leaf)))))))
/-- (*consols/mail.Box).Put -/
def F24 (p0 : Option Addr) (p1 : Sl) (h : Hp) (Q : Bool → Hp → Prop) : Prop :=
  joinP
    (fun (t1 : Bool) (h1 : Hp) =>
      condP t1 (Q false h1)
        (nilP p0 fun (a1 : Addr) =>
          loadP cC (a1.add (0 : Nat)) h1 fun (p1_1 : Option Nat) =>
            callP Try.prog (56 : Nat) [Value.slice p1.a p1.len p1.cap] cSl h1 fun (s1 : Sl) (h2 : Hp) => sendP p1_1 (Value.slice s1.a s1.len s1.cap) h2 (Q false h2) fun (h3 : Hp) => Q true h3))
    fun (J1 : Bool → Hp → Prop) => condP p0.isNone (J1 true h) (nilP p0 fun (a2 : Addr) => loadP cB { block := a2.block, off := a2.off + (1 : Nat) : Addr } h fun (t2 : Bool) => J1 t2 h)
theorem e24 (p0 : Option Addr) (p1 : Sl) (h : Hp) (Q : Bool → Hp → Prop) : fnD a24 Try.prog 24 n24 (cB) [Value.pointer p0, Value.slice p1.a p1.len p1.cap] h Q = F24 p0 p1 h Q := by kernel_rfl
theorem c24 {p0 : Option Addr} {p1 : Sl} {h : Hp} {Q : Bool → Hp → Prop} (hk : F24 p0 p1 h Q) : callP Try.prog 24 [Value.pointer p0, Value.slice p1.a p1.len p1.cap] (cB) h Q :=
  spec_of (prem_of prog_ok dep_ok eqs_ok rfl (by kernel_rfl)) mix_ok ((e24 p0 p1 h Q).mpr hk)
def a25 : Ann := { prom := 0, refs := [], dyn := 0, bcd := fun s => match s with | _ => none, eqs := memL eqL, cdc := cdcs, res := ress, pure := memL [] }
def n25 : An := (.seq (.reg []) (.cond (.reg []) .leaf))
/-- (*consols/mail.Box).Shut -/
def F25 (p0 : Option Addr) (h : Hp) (Q : Unit → Hp → Prop) : Prop :=
 condP (!p0.isNone) (nilP p0 fun (a1 : Addr) => storeP cB { block := a1.block, off := a1.off + (1 : Nat) : Addr } true h fun (h1 : Hp) => Q PUnit.unit h1) (Q PUnit.unit h)
theorem e25 (p0 : Option Addr) (h : Hp) (Q : Unit → Hp → Prop) : fnD a25 Try.prog 25 n25 (tupC []) [Value.pointer p0] h Q = F25 p0 h Q := by kernel_rfl
theorem c25 {p0 : Option Addr} {h : Hp} {Q : Unit → Hp → Prop} (hk : F25 p0 h Q) : callP Try.prog 25 [Value.pointer p0] (tupC []) h Q :=
  spec_of (prem_of prog_ok dep_ok eqs_ok rfl (by kernel_rfl)) mix_ok ((e25 p0 h Q).mpr hk)
def a26 : Ann := { prom := 0, refs := [], dyn := 0, bcd := fun s => match s with | _ => none, eqs := memL eqL, cdc := cdcs, res := ress, pure := memL [] }
def n26 : An := (.seq (.reg []) (.seq (.seq (.reg []) (.cond (.seq (.reg []) .leaf) .leaf)) (.seq (.reg []) (.seq (.reg []) (.block (.cond (.seq (.reg []) (.seq (.reg []) .leaf)) (.seq (.reg []) .leaf)))))))
/-- (*consols/mail.Box).Take -/
def F26 (p0 : Option Addr) (h : Hp) (Q : Sl × Bool → Hp → Prop) : Prop :=
  condP p0.isNone (Q ({ a := none, len := (0 : Nat), cap := (0 : Nat) : Sl }, false) h)
    (nilP p0 fun (a1 : Addr) => loadP cC (a1.add (0 : Nat)) h fun (p1 : Option Nat) => recvP cSl p1 h (Q ({ a := none, len := (0 : Nat), cap := (0 : Nat) : Sl }, false) h) fun (s1 : Sl) (h1 : Hp) => Q (s1, true) h1)
theorem e26 (p0 : Option Addr) (h : Hp) (Q : Sl × Bool → Hp → Prop) : fnD a26 Try.prog 26 n26 (tupC [cSl, cB]) [Value.pointer p0] h Q = F26 p0 h Q := by kernel_rfl
theorem c26 {p0 : Option Addr} {h : Hp} {Q : Sl × Bool → Hp → Prop} (hk : F26 p0 h Q) : callP Try.prog 26 [Value.pointer p0] (tupC [cSl, cB]) h Q :=
  spec_of (prem_of prog_ok dep_ok eqs_ok rfl (by kernel_rfl)) mix_ok ((e26 p0 h Q).mpr hk)
def a27 : Ann := { prom := 0, refs := [], dyn := 0, bcd := fun s => match s with | _ => none, eqs := memL eqL, cdc := cdcs, res := ress, pure := memL [] }
def n27 : An := (.seq (.reg []) (.seq (.reg []) (.seq (.reg []) (.seq (.reg []) (.seq (.reg []) .leaf)))))
/-- consols/consolslaw8.known -/
def F27  (h : Hp) (Q : Bool → Hp → Prop) : Prop :=
  callP Try.prog (23 : Nat) [Value.int IntKind.i64 (1 : Int)] cP h fun (p1 : Option Addr) (h1 : Hp) =>
    allocP (Obj.cells { toList := [Value.int IntKind.u8 (97 : Int)] : Array Value } (5 : Nat)) h1 fun (k1 : Nat) (h2 : Hp) =>
      markP { block := k1, off := (0 : Nat) : Addr } h2 fun (h3 : Hp) =>
        callP Try.prog (24 : Nat) [Value.pointer p1, Value.slice (some { block := k1, off := (0 : Nat) : Addr }) (1 : Nat) (1 : Nat)] cB h3 fun (t1 : Bool) (h4 : Hp) =>
          allocP (Obj.cells { toList := [Value.int IntKind.u8 (98 : Int)] : Array Value } (5 : Nat)) h4 fun (k2 : Nat) (h5 : Hp) =>
            markP { block := k2, off := (0 : Nat) : Addr } h5 fun (h6 : Hp) =>
              callP Try.prog (24 : Nat) [Value.pointer p1, Value.slice (some { block := k2, off := (0 : Nat) : Addr }) (1 : Nat) (1 : Nat)] cB h6 fun (t2 : Bool) (h7 : Hp) =>
                callP Try.prog (26 : Nat) [Value.pointer p1] (tupC [cSl, cB]) h7 fun (z1 : Sl × Bool) (h8 : Hp) =>
                  condP t1
                    (condP (!t2)
                      (condP z1.snd
                        (strP z1.fst.a z1.fst.len h8 fun (u1 : ByteArray) =>
                          condP (strEq u1 { data := #[(97 : UInt8)] : ByteArray }) (callP Try.prog (23 : Nat) [Value.int IntKind.i64 (0 : Int)] cP h8 fun (p2 : Option Addr) (h9 : Hp) => Q p2.isNone h9) (Q false h8))
                        (Q false h8))
                      (Q false h8))
                    (Q false h8)
theorem e27  (h : Hp) (Q : Bool → Hp → Prop) : fnD a27 Try.prog 27 n27 (cB) [] h Q = F27  h Q := by kernel_rfl
theorem c27  {h : Hp} {Q : Bool → Hp → Prop} (hk : F27  h Q) : callP Try.prog 27 [] (cB) h Q :=
  spec_of (prem_of prog_ok dep_ok eqs_ok rfl (by kernel_rfl)) mix_ok ((e27  h Q).mpr hk)
def a28 : Ann := { prom := 0, refs := [], dyn := 0, bcd := fun s => match s with | _ => none, eqs := memL eqL, cdc := cdcs, res := ress, pure := memL [] }
def n28 : An := (.seq (.reg []) (.seq (.seq (.reg []) (.block (.loop [(11, false, cI .i64)] 33552892 (.seq (.reg []) (.seq (.cond .leaf .leaf) (.seq (.block (.seq (.reg []) (.seq (.reg []) (.seq (.reg []) (.cond (.seq (.reg []) .leaf) .leaf))))) (.reg []))))))) (.seq (.reg []) .leaf)))
/-- consols/mail.First -/
def F28 (p0 : Sl) (h : Hp) (Q : Sl × Int × Bool → Hp → Prop) : Prop :=
  loopP (0 : Int) h fun (J1 : Int → Hp → Prop) (n1 : Int) (h1 : Hp) =>
    condP (decide (n1 < (↑p0.len : Int)))
      (idxP p0.a p0.len n1 fun (a1 : Addr) =>
        loadP cP (a1.add (n1.toNat * (1 : Nat))) h1 fun (p1 : Option Addr) =>
          callP Try.prog (26 : Nat) [Value.pointer p1] (tupC [cSl, cB]) h1 fun (z1 : Sl × Bool) (h2 : Hp) => condP z1.snd (Q (z1.fst, n1, true) h2) (J1 (IntKind.i64.wrap (n1 + (1 : Int))) h2))
      (Q ({ a := none, len := (0 : Nat), cap := (0 : Nat) : Sl }, (0 : Int), false) h1)
theorem e28 (p0 : Sl) (h : Hp) (Q : Sl × Int × Bool → Hp → Prop) : fnD a28 Try.prog 28 n28 (tupC [cSl, cI .i64, cB]) [Value.slice p0.a p0.len p0.cap] h Q = F28 p0 h Q := by kernel_rfl
theorem c28 {p0 : Sl} {h : Hp} {Q : Sl × Int × Bool → Hp → Prop} (hk : F28 p0 h Q) : callP Try.prog 28 [Value.slice p0.a p0.len p0.cap] (tupC [cSl, cI .i64, cB]) h Q :=
  spec_of (prem_of prog_ok dep_ok eqs_ok rfl (by kernel_rfl)) mix_ok ((e28 p0 h Q).mpr hk)
def a29 : Ann := { prom := 0, refs := [], dyn := 0, bcd := fun s => match s with | _ => none, eqs := memL eqL, cdc := cdcs, res := ress, pure := memL [] }
def n29 : An := (.seq (.reg []) (.seq (.reg []) .leaf))
/-- consols/keep.New -/
def F29  (h : Hp) (Q : Option Addr → Hp → Prop) : Prop :=
  allocP (Obj.cells { toList := [Value.slice none (0 : Nat) (0 : Nat), Value.int IntKind.i64 (1 : Int)] : Array Value } (103 : Nat)) h fun (k1 : Nat) (h1 : Hp) => Q (some { block := k1, off := (0 : Nat) : Addr }) h1
theorem e29  (h : Hp) (Q : Option Addr → Hp → Prop) : fnD a29 Try.prog 29 n29 (cP) [] h Q = F29  h Q := by kernel_rfl
theorem c29  {h : Hp} {Q : Option Addr → Hp → Prop} (hk : F29  h Q) : callP Try.prog 29 [] (cP) h Q :=
  spec_of (prem_of prog_ok dep_ok eqs_ok rfl (by kernel_rfl)) mix_ok ((e29  h Q).mpr hk)
def a30 : Ann := { prom := 56, refs := [], dyn := 0, bcd := fun s => match s with | 3 => some (cMsg) | 4 => some (cFrame) | 5 => some (cFrame) | _ => none, eqs := memL eqL, cdc := cdcs, res := ress, pure := memL [] }
def n30 : An := (.seq (.reg []) (.seq (.seq (.reg []) (.cond (.seq (.reg []) .leaf) .leaf)) (.seq (.reg [(0, []), (1, []), (2, []), (4, []), (6, []), (3, []), (5, []), (7, [])]) (.seq (.reg []) (.seq (.reg [(0, []), (1, []), (2, []), (3, []), (5, []), (4, []), (6, []), (7, []), (8, []), (9, []), (10, [])]) (.join [] 70364449210368 (.seq (.reg []) (.cond (.reg []) .leaf)) (.seq (.reg []) .leaf)))))))
/-- (*consols/keep.Keep).Add -/
def F30 (p0 : Option Addr) (p1 : Msg) (h : Hp) (Q : Frame → Hp → Prop) : Prop :=
  condP p0.isNone (Q { Seq := (0 : Int), Msg_Kind := (0 : Int), Msg_F_0 := (0 : Int), Msg_F_1 := (0 : Int), Msg_F_2 := (0 : Int), Msg_F_3 := (0 : Int), Msg_F_4 := (0 : Int), Msg_F_5 := (0 : Int) : Frame } h)
    (nilP p0 fun (a1 : Addr) =>
      loadP (cI IntKind.i64) { block := a1.block, off := a1.off + (1 : Nat) : Addr } h fun (n1 : Int) =>
        nilP p0 fun (a2 : Addr) =>
          loadP (cI IntKind.i64) { block := a2.block, off := a2.off + (1 : Nat) : Addr } h fun (n2 : Int) =>
            nilP p0 fun (a3 : Addr) =>
              storeP (cI IntKind.i64) { block := a3.block, off := a3.off + (1 : Nat) : Addr } (IntKind.i64.wrap (n2 + (1 : Int))) h fun (h1 : Hp) =>
                nilP p0 fun (a4 : Addr) =>
                  loadP cSl (a4.add (0 : Nat)) h1 fun (s1 : Sl) =>
                    allocP
                      (Obj.cells
                        {
                          toList :=
                            [Value.int IntKind.i64 n1, Value.int IntKind.i64 p1.Kind, Value.int IntKind.i64 p1.F_0, Value.int IntKind.i64 p1.F_1, Value.int IntKind.i64 p1.F_2, Value.int IntKind.i64 p1.F_3, Value.int IntKind.i64 p1.F_4,
                              Value.int IntKind.i64 p1.F_5] :
                          Array Value }
                        (58 : Nat))
                      h1 fun (k1 : Nat) (h2 : Hp) =>
                      appendP cFrame (58 : Nat) (64 : Nat) s1.a s1.len s1.cap (some { block := k1, off := (0 : Nat) : Addr }) (1 : Nat) h2 fun (p1_1 : Option Addr) (k2 k3 : Nat) (h3 : Hp) =>
                        nilP p0 fun (a5 : Addr) =>
                          storeP cSl (a5.add (0 : Nat)) { a := p1_1, len := k2, cap := k3 : Sl } h3 fun (h4 : Hp) =>
                            joinP (fun (u1 : PUnit) (h5 : Hp) => Q { Seq := n1, Msg_Kind := p1.Kind, Msg_F_0 := p1.F_0, Msg_F_1 := p1.F_1, Msg_F_2 := p1.F_2, Msg_F_3 := p1.F_3, Msg_F_4 := p1.F_4, Msg_F_5 := p1.F_5 : Frame } h5)
                              fun (J1 : PUnit → Hp → Prop) =>
                              nilP p0 fun (a6 : Addr) =>
                                loadP cSl (a6.add (0 : Nat)) h4 fun (s2 : Sl) =>
                                  condP (decide ((↑s2.len : Int) > (64 : Int)))
                                    (nilP p0 fun (a7 : Addr) =>
                                      loadP cSl (a7.add (0 : Nat)) h4 fun (s3 : Sl) =>
                                        callP Try.prog (57 : Nat) [Value.slice s3.a s3.len s3.cap, Value.int IntKind.i64 (0 : Int), Value.int IntKind.i64 (1 : Int)] cSl h4 fun (s4 : Sl) (h6 : Hp) =>
                                          nilP p0 fun (a8 : Addr) => storeP cSl (a8.add (0 : Nat)) s4 h6 fun (h7 : Hp) => J1 PUnit.unit h7)
                                    (J1 PUnit.unit h4))
theorem e30 (p0 : Option Addr) (p1 : Msg) (h : Hp) (Q : Frame → Hp → Prop) : fnD a30 Try.prog 30 n30 (cFrame) [Value.pointer p0, cMsg.enc p1] h Q = F30 p0 p1 h Q := by kernel_rfl
theorem c30 {p0 : Option Addr} {p1 : Msg} {h : Hp} {Q : Frame → Hp → Prop} (hk : F30 p0 p1 h Q) : callP Try.prog 30 [Value.pointer p0, cMsg.enc p1] (cFrame) h Q :=
  spec_of (prem_of prog_ok dep_ok eqs_ok rfl (by kernel_rfl)) mix_ok ((e30 p0 p1 h Q).mpr hk)
def a31 : Ann := { prom := 56, refs := [], dyn := 0, bcd := fun s => match s with | 3 => some (cMsg) | 4 => some (cFrame) | 5 => some (cFrame) | _ => none, eqs := memL eqL, cdc := cdcs, res := ress, pure := memL [] }
def n31 : An := (.seq (.reg []) (.seq (.reg [(0, []), (2, []), (4, []), (1, []), (3, []), (5, [])]) (.seq (.reg [(0, []), (1, []), (2, []), (3, []), (5, []), (4, []), (6, []), (7, []), (8, []), (9, []), (10, [])]) (.seq (.reg []) .leaf))))
/-- (*consols/consolsref9.Keep).Add -/
def F31 (p0 : Option Addr) (p1 : Msg) (h : Hp) (Q : Frame → Hp → Prop) : Prop :=
  callP Try.prog (36 : Nat) [Value.pointer p0] (cI IntKind.i64) h fun (n1 : Int) (h1 : Hp) =>
    nilP p0 fun (a1 : Addr) =>
      loadP cSl (a1.add (0 : Nat)) h1 fun (s1 : Sl) =>
        allocP
          (Obj.cells
            {
              toList :=
                [Value.int IntKind.i64 n1, Value.int IntKind.i64 p1.Kind, Value.int IntKind.i64 p1.F_0, Value.int IntKind.i64 p1.F_1, Value.int IntKind.i64 p1.F_2, Value.int IntKind.i64 p1.F_3, Value.int IntKind.i64 p1.F_4,
                  Value.int IntKind.i64 p1.F_5] :
              Array Value }
            (58 : Nat))
          h1 fun (k1 : Nat) (h2 : Hp) =>
          appendP cFrame (58 : Nat) (64 : Nat) s1.a s1.len s1.cap (some { block := k1, off := (0 : Nat) : Addr }) (1 : Nat) h2 fun (p1_1 : Option Addr) (k2 k3 : Nat) (h3 : Hp) =>
            nilP p0 fun (a2 : Addr) =>
              storeP cSl (a2.add (0 : Nat)) { a := p1_1, len := k2, cap := k3 : Sl } h3 fun (h4 : Hp) =>
                Q { Seq := n1, Msg_Kind := p1.Kind, Msg_F_0 := p1.F_0, Msg_F_1 := p1.F_1, Msg_F_2 := p1.F_2, Msg_F_3 := p1.F_3, Msg_F_4 := p1.F_4, Msg_F_5 := p1.F_5 : Frame } h4
theorem e31 (p0 : Option Addr) (p1 : Msg) (h : Hp) (Q : Frame → Hp → Prop) : fnD a31 Try.prog 31 n31 (cFrame) [Value.pointer p0, cMsg.enc p1] h Q = F31 p0 p1 h Q := by kernel_rfl
theorem c31 {p0 : Option Addr} {p1 : Msg} {h : Hp} {Q : Frame → Hp → Prop} (hk : F31 p0 p1 h Q) : callP Try.prog 31 [Value.pointer p0, cMsg.enc p1] (cFrame) h Q :=
  spec_of (prem_of prog_ok dep_ok eqs_ok rfl (by kernel_rfl)) mix_ok ((e31 p0 p1 h Q).mpr hk)
def a32 : Ann := { prom := 0, refs := [], dyn := 0, bcd := fun s => match s with | _ => none, eqs := memL eqL, cdc := cdcs, res := ress, pure := memL [] }
def n32 : An := (.seq (.reg []) (.seq (.join [(33, false, cB)] 17179869120 (.reg [(0, []), (1, []), (2, []), (3, []), (4, []), (5, []), (6, []), (7, []), (8, []), (9, []), (10, []), (11, []), (12, []), (13, []), (14, []), (15, []), (16, []), (17, []), (19, []), (21, []), (22, []), (23, []), (18, []), (20, []), (24, []), (25, []), (26, []), (27, [])]) (.cond (.seq (.reg []) .leaf) .leaf)) (.seq (.reg [(0, []), (1, []), (2, []), (4, []), (5, []), (6, []), (9, []), (10, []), (11, []), (13, []), (3, []), (7, []), (8, []), (12, []), (14, []), (15, []), (16, []), (17, []), (18, []), (19, [])]) .leaf)))
/-- (*consols/keep.Keep).From -/
def F32 (p0 : Option Addr) (p1 : Int) (h : Hp) (Q : Sl × Bool → Hp → Prop) : Prop :=
  joinP
    (fun (t1 : Bool) (h1 : Hp) =>
      condP t1 (Q ({ a := none, len := (0 : Nat), cap := (0 : Nat) : Sl }, false) h1)
        (nilP p0 fun (a1 : Addr) =>
          nilP p0 fun (a2 : Addr) =>
            nilP p0 fun (a3 : Addr) =>
              loadP cSl (a1.add (0 : Nat)) h1 fun (s1 : Sl) =>
                loadP cSl (a2.add (0 : Nat)) h1 fun (s2 : Sl) =>
                  loadP (cI IntKind.i64) { block := a3.block, off := a3.off + (1 : Nat) : Addr } h1 fun (n1 : Int) =>
                    cutP s1.len s1.cap (some (IntKind.i64.wrap ((↑s2.len : Int) - IntKind.i64.wrap (n1 - p1)))) none fun (k1 k2 : Nat) =>
                      callP Try.prog (58 : Nat) [Value.slice (cutA s1.a k1 s1.cap (8 : Nat)) (k2 - k1) (s1.cap - k1)] cSl h1 fun (s3 : Sl) (h2 : Hp) => Q (s3, true) h2))
    fun (J1 : Bool → Hp → Prop) =>
    condP p0.isNone (J1 true h)
      (condP (decide (p1 < (1 : Int))) (J1 true h)
        (nilP p0 fun (a4 : Addr) =>
          loadP (cI IntKind.i64) { block := a4.block, off := a4.off + (1 : Nat) : Addr } h fun (n2 : Int) =>
            condP (decide (p1 > n2)) (J1 true h)
              (nilP p0 fun (a5 : Addr) =>
                nilP p0 fun (a6 : Addr) =>
                  loadP (cI IntKind.i64) { block := a5.block, off := a5.off + (1 : Nat) : Addr } h fun (n3 : Int) => loadP cSl (a6.add (0 : Nat)) h fun (s4 : Sl) => J1 (decide (IntKind.i64.wrap (n3 - p1) > (↑s4.len : Int))) h)))
theorem e32 (p0 : Option Addr) (p1 : Int) (h : Hp) (Q : Sl × Bool → Hp → Prop) : fnD a32 Try.prog 32 n32 (tupC [cSl, cB]) [Value.pointer p0, Value.int IntKind.i64 p1] h Q = F32 p0 p1 h Q := by kernel_rfl
theorem c32 {p0 : Option Addr} {p1 : Int} {h : Hp} {Q : Sl × Bool → Hp → Prop} (hk : F32 p0 p1 h Q) : callP Try.prog 32 [Value.pointer p0, Value.int IntKind.i64 p1] (tupC [cSl, cB]) h Q :=
  spec_of (prem_of prog_ok dep_ok eqs_ok rfl (by kernel_rfl)) mix_ok ((e32 p0 p1 h Q).mpr hk)
def a33 : Ann := { prom := 0, refs := [], dyn := 0, bcd := fun s => match s with | _ => none, eqs := memL eqL, cdc := cdcs, res := ress, pure := memL [] }
def n33 : An := (.seq (.reg []) (.seq (.reg []) (.seq (.join [(26, false, cB)] 134213632 (.reg []) (.cond (.seq (.reg []) .leaf) .leaf)) (.seq (.reg []) .leaf))))
/-- (*consols/consolsref9.Keep).From -/
def F33 (p0 : Option Addr) (p1 : Int) (h : Hp) (Q : Sl × Bool → Hp → Prop) : Prop :=
  nilP p0 fun (a1 : Addr) =>
    loadP cSl (a1.add (0 : Nat)) h fun (s1 : Sl) =>
      joinP
        (fun (t1 : Bool) (h1 : Hp) =>
          condP t1 (Q ({ a := none, len := (0 : Nat), cap := (0 : Nat) : Sl }, false) h1)
            (allocP (Obj.cells { toList := [] : Array Value } (58 : Nat)) h1 fun (k1 : Nat) (h2 : Hp) =>
              nilP p0 fun (a2 : Addr) =>
                loadP cSl (a2.add (0 : Nat)) h2 fun (s2 : Sl) =>
                  cutP s2.len s2.cap (some (IntKind.i64.wrap (p1 - (1 : Int)))) none fun (k2 k3 : Nat) =>
                    appendP cFrame (58 : Nat) (64 : Nat) (some { block := k1, off := (0 : Nat) : Addr }) (0 : Nat) (0 : Nat) (cutA s2.a k2 s2.cap (8 : Nat)) (k3 - k2) h2 fun (p1 : Option Addr) (k4 k5 : Nat) (h3 : Hp) =>
                      Q ({ a := p1, len := k4, cap := k5 : Sl }, true) h3))
        fun (J1 : Bool → Hp → Prop) =>
        condP (decide (p1 < (1 : Int))) (J1 true h) (condP (decide (p1 > IntKind.i64.wrap ((↑s1.len : Int) + (1 : Int)))) (J1 true h) (J1 (decide (p1 < IntKind.i64.wrap (IntKind.i64.wrap ((↑s1.len : Int) + (1 : Int)) - (64 : Int)))) h))
theorem e33 (p0 : Option Addr) (p1 : Int) (h : Hp) (Q : Sl × Bool → Hp → Prop) : fnD a33 Try.prog 33 n33 (tupC [cSl, cB]) [Value.pointer p0, Value.int IntKind.i64 p1] h Q = F33 p0 p1 h Q := by kernel_rfl
theorem c33 {p0 : Option Addr} {p1 : Int} {h : Hp} {Q : Sl × Bool → Hp → Prop} (hk : F33 p0 p1 h Q) : callP Try.prog 33 [Value.pointer p0, Value.int IntKind.i64 p1] (tupC [cSl, cB]) h Q :=
  spec_of (prem_of prog_ok dep_ok eqs_ok rfl (by kernel_rfl)) mix_ok ((e33 p0 p1 h Q).mpr hk)
def a34 : Ann := { prom := 0, refs := [], dyn := 0, bcd := fun s => match s with | _ => none, eqs := memL eqL, cdc := cdcs, res := ress, pure := memL [] }
def n34 : An := (.seq (.reg []) (.seq (.seq (.reg []) (.cond (.seq (.reg []) .leaf) .leaf)) (.seq (.seq (.reg []) (.block (.loop [(5, false, cI .i64)] 67106864 (.seq (.seq (.reg []) (.cond .leaf .leaf)) (.seq (.block (.seq (.reg [(0, []), (1, []), (2, []), (4, []), (5, []), (6, []), (3, []), (7, []), (8, [])]) (.cond (.seq (.reg []) .leaf) .leaf))) (.reg [])))))) (.seq (.reg []) .leaf))))
/-- consols/consolsref5.Same -/
def F34 (p0 : Sl) (p1 : Sl) (h : Hp) (Q : Bool → Hp → Prop) : Prop :=
  condP ((↑p0.len : Int) != (↑p1.len : Int)) (Q false h)
    (loopP (0 : Int) h fun (J1 : Int → Hp → Prop) (n1 : Int) (h1 : Hp) =>
      condP (decide (n1 < (↑p0.len : Int)))
        (idxP p0.a p0.len n1 fun (a1 : Addr) =>
          idxP p1.a p1.len n1 fun (a2 : Addr) =>
            loadP cFrame (a1.add (n1.toNat * (8 : Nat))) h1 fun (x1 : Frame) =>
              loadP cFrame (a2.add (n1.toNat * (8 : Nat))) h1 fun (x2 : Frame) =>
                condP
                  (!(x1.Seq == x2.Seq &&
                      (x1.Msg_Kind == x2.Msg_Kind && (x1.Msg_F_0 == x2.Msg_F_0 && (x1.Msg_F_1 == x2.Msg_F_1 && (x1.Msg_F_2 == x2.Msg_F_2 && (x1.Msg_F_3 == x2.Msg_F_3 && (x1.Msg_F_4 == x2.Msg_F_4 && (x1.Msg_F_5 == x2.Msg_F_5 && true)))))))))
                  (Q false h1) (J1 (IntKind.i64.wrap (n1 + (1 : Int))) h1))
        (Q true h1))
theorem e34 (p0 : Sl) (p1 : Sl) (h : Hp) (Q : Bool → Hp → Prop) : fnD a34 Try.prog 34 n34 (cB) [Value.slice p0.a p0.len p0.cap, Value.slice p1.a p1.len p1.cap] h Q = F34 p0 p1 h Q := by kernel_rfl
theorem c34 {p0 : Sl} {p1 : Sl} {h : Hp} {Q : Bool → Hp → Prop} (hk : F34 p0 p1 h Q) : callP Try.prog 34 [Value.slice p0.a p0.len p0.cap, Value.slice p1.a p1.len p1.cap] (cB) h Q :=
  spec_of (prem_of prog_ok dep_ok eqs_ok rfl (by kernel_rfl)) mix_ok ((e34 p0 p1 h Q).mpr hk)
def a35 : Ann := { prom := 0, refs := [], dyn := 0, bcd := fun s => match s with | _ => none, eqs := memL eqL, cdc := cdcs, res := ress, pure := memL [] }
def n35 : An := (.seq (.reg []) (.seq (.seq (.reg []) (.cond (.seq (.reg []) .leaf) .leaf)) (.seq (.reg []) .leaf)))
/-- (*consols/keep.Keep).Next -/
def F35 (p0 : Option Addr) (h : Hp) (Q : Int → Hp → Prop) : Prop :=
 condP p0.isNone (Q (0 : Int) h) (nilP p0 fun (a1 : Addr) => loadP (cI IntKind.i64) { block := a1.block, off := a1.off + (1 : Nat) : Addr } h fun (n1 : Int) => Q n1 h)
theorem e35 (p0 : Option Addr) (h : Hp) (Q : Int → Hp → Prop) : fnD a35 Try.prog 35 n35 (cI .i64) [Value.pointer p0] h Q = F35 p0 h Q := by kernel_rfl
theorem c35 {p0 : Option Addr} {h : Hp} {Q : Int → Hp → Prop} (hk : F35 p0 h Q) : callP Try.prog 35 [Value.pointer p0] (cI .i64) h Q :=
  spec_of (prem_of prog_ok dep_ok eqs_ok rfl (by kernel_rfl)) mix_ok ((e35 p0 h Q).mpr hk)
def a36 : Ann := { prom := 0, refs := [], dyn := 0, bcd := fun s => match s with | _ => none, eqs := memL eqL, cdc := cdcs, res := ress, pure := memL [] }
def n36 : An := (.seq (.reg []) (.seq (.reg []) .leaf))
/-- (*consols/consolsref9.Keep).Next -/
def F36 (p0 : Option Addr) (h : Hp) (Q : Int → Hp → Prop) : Prop :=
 nilP p0 fun (a1 : Addr) => loadP cSl (a1.add (0 : Nat)) h fun (s1 : Sl) => Q (IntKind.i64.wrap ((↑s1.len : Int) + (1 : Int))) h
theorem e36 (p0 : Option Addr) (h : Hp) (Q : Int → Hp → Prop) : fnD a36 Try.prog 36 n36 (cI .i64) [Value.pointer p0] h Q = F36 p0 h Q := by kernel_rfl
theorem c36 {p0 : Option Addr} {h : Hp} {Q : Int → Hp → Prop} (hk : F36 p0 h Q) : callP Try.prog 36 [Value.pointer p0] (cI .i64) h Q :=
  spec_of (prem_of prog_ok dep_ok eqs_ok rfl (by kernel_rfl)) mix_ok ((e36 p0 h Q).mpr hk)
def a37 : Ann := { prom := 12, refs := [(18, 2), (22, 3)], dyn := 0, bcd := fun s => match s with | 2 => some (cFrame) | 3 => some (cFrame) | _ => none, eqs := memL eqL, cdc := cdcs, res := ress, pure := memL [] }
def n37 : An := (.seq (.reg []) (.seq (.reg []) (.seq (.reg []) (.seq (.reg []) (.seq (.reg []) (.seq (.reg [(0, []), (1, []), (2, []), (3, []), (4, []), (5, []), (6, []), (7, []), (8, []), (9, []), (10, []), (11, []), (12, []), (13, []), (14, []), (15, []), (16, []), (17, []), (18, []), (20, []), (19, []), (21, []), (22, []), (23, []), (24, []), (25, []), (26, []), (27, []), (28, [])]) .leaf))))))
/-- consols/consolslaw9.known -/
def F37  (h : Hp) (Q : Bool → Hp → Prop) : Prop :=
  callP Try.prog (29 : Nat) [] cP h fun (p1 : Option Addr) (h1 : Hp) =>
    callP Try.prog (30 : Nat)
      [Value.pointer p1,
        Value.agg
          {
            toList :=
              [Value.int IntKind.i64 (18 : Int), Value.int IntKind.i64 (0 : Int), Value.int IntKind.i64 (0 : Int), Value.int IntKind.i64 (0 : Int), Value.int IntKind.i64 (0 : Int), Value.int IntKind.i64 (0 : Int),
                Value.int IntKind.i64 (0 : Int)] :
            Array Value }]
      cFrame h1 fun (x1 : Frame) (h2 : Hp) =>
      callP Try.prog (30 : Nat)
        [Value.pointer p1,
          Value.agg
            {
              toList :=
                [Value.int IntKind.i64 (27 : Int), Value.int IntKind.i64 (0 : Int), Value.int IntKind.i64 (0 : Int), Value.int IntKind.i64 (0 : Int), Value.int IntKind.i64 (0 : Int), Value.int IntKind.i64 (0 : Int),
                  Value.int IntKind.i64 (0 : Int)] :
              Array Value }]
        cFrame h2 fun (x2 : Frame) (h3 : Hp) =>
        callP Try.prog (32 : Nat) [Value.pointer p1, Value.int IntKind.i64 (2 : Int)] (tupC [cSl, cB]) h3 fun (z1 : Sl × Bool) (h4 : Hp) =>
          condP (x1.Seq == (1 : Int))
            (condP (x2.Seq == (2 : Int))
              (condP z1.snd
                (condP ((↑z1.fst.len : Int) == (1 : Int))
                  (idxP z1.fst.a z1.fst.len (0 : Int) fun (a1 : Addr) =>
                    loadP cFrame (a1.add (0 : Nat)) h4 fun (x3 : Frame) =>
                      condP
                        (x3.Seq == x2.Seq &&
                          (x3.Msg_Kind == x2.Msg_Kind &&
                            (x3.Msg_F_0 == x2.Msg_F_0 && (x3.Msg_F_1 == x2.Msg_F_1 && (x3.Msg_F_2 == x2.Msg_F_2 && (x3.Msg_F_3 == x2.Msg_F_3 && (x3.Msg_F_4 == x2.Msg_F_4 && (x3.Msg_F_5 == x2.Msg_F_5 && true))))))))
                        (callP Try.prog (35 : Nat) [Value.pointer p1] (cI IntKind.i64) h4 fun (n1 : Int) (h5 : Hp) => Q (n1 == (3 : Int)) h5) (Q false h4))
                  (Q false h4))
                (Q false h4))
              (Q false h4))
            (Q false h4)
theorem e37  (h : Hp) (Q : Bool → Hp → Prop) : fnD a37 Try.prog 37 n37 (cB) [] h Q = F37  h Q := by kernel_rfl
theorem c37  {h : Hp} {Q : Bool → Hp → Prop} (hk : F37  h Q) : callP Try.prog 37 [] (cB) h Q :=
  spec_of (prem_of prog_ok dep_ok eqs_ok rfl (by kernel_rfl)) mix_ok ((e37  h Q).mpr hk)
def a38 : Ann := { prom := 0, refs := [], dyn := 0, bcd := fun s => match s with | _ => none, eqs := memL eqL, cdc := cdcs, res := ress, pure := memL [] }
def n38 : An := (.seq (.reg []) (.seq (.join [(8, false, cB)] 504 (.reg []) (.cond (.seq (.reg []) .leaf) .leaf)) (.seq (.reg []) .leaf)))
/-- consols/consolsref8.New -/
def F38 (p0 : Int) (h : Hp) (Q : Option Addr → Hp → Prop) : Prop :=
  joinP
    (fun (t1 : Bool) (h1 : Hp) =>
      condP t1 (Q none h1)
        (allocP (Obj.cells { toList := [Value.slice none (0 : Nat) (0 : Nat), Value.int IntKind.i64 p0, Value.bool false] : Array Value } (76 : Nat)) h1 fun (k1 : Nat) (h2 : Hp) => Q (some { block := k1, off := (0 : Nat) : Addr }) h2))
    fun (J1 : Bool → Hp → Prop) => condP (decide (p0 < (1 : Int))) (J1 true h) (J1 (decide (p0 > (256 : Int))) h)
theorem e38 (p0 : Int) (h : Hp) (Q : Option Addr → Hp → Prop) : fnD a38 Try.prog 38 n38 (cP) [Value.int IntKind.i64 p0] h Q = F38 p0 h Q := by kernel_rfl
theorem c38 {p0 : Int} {h : Hp} {Q : Option Addr → Hp → Prop} (hk : F38 p0 h Q) : callP Try.prog 38 [Value.int IntKind.i64 p0] (cP) h Q :=
  spec_of (prem_of prog_ok dep_ok eqs_ok rfl (by kernel_rfl)) mix_ok ((e38 p0 h Q).mpr hk)
def a39 : Ann := { prom := 0, refs := [], dyn := 0, bcd := fun s => match s with | _ => none, eqs := memL eqL, cdc := cdcs, res := ress, pure := memL [] }
def n39 : An := (.seq (.reg []) (.seq (.seq (.reg []) (.block (.loop [(5, false, cI .i64)] 33554428 (.seq (.seq (.reg []) (.cond .leaf .leaf)) (.seq (.block (.seq (.reg []) (.seq (.reg []) (.cond (.seq (.reg []) .leaf) .leaf)))) (.reg [])))))) (.seq (.reg []) .leaf)))
/-- consols/consolsref8.First -/
def F39 (p0 : Sl) (h : Hp) (Q : Sl × Int × Bool → Hp → Prop) : Prop :=
  loopP (0 : Int) h fun (J1 : Int → Hp → Prop) (n1 : Int) (h1 : Hp) =>
    condP (decide (n1 < (↑p0.len : Int)))
      (idxP p0.a p0.len n1 fun (a1 : Addr) =>
        loadP cP (a1.add (n1.toNat * (1 : Nat))) h1 fun (p1 : Option Addr) =>
          callP Try.prog (41 : Nat) [Value.pointer p1] (tupC [cSl, cB]) h1 fun (z1 : Sl × Bool) (h2 : Hp) => condP z1.snd (Q (z1.fst, n1, true) h2) (J1 (IntKind.i64.wrap (n1 + (1 : Int))) h2))
      (Q ({ a := none, len := (0 : Nat), cap := (0 : Nat) : Sl }, (0 : Int), false) h1)
theorem e39 (p0 : Sl) (h : Hp) (Q : Sl × Int × Bool → Hp → Prop) : fnD a39 Try.prog 39 n39 (tupC [cSl, cI .i64, cB]) [Value.slice p0.a p0.len p0.cap] h Q = F39 p0 h Q := by kernel_rfl
theorem c39 {p0 : Sl} {h : Hp} {Q : Sl × Int × Bool → Hp → Prop} (hk : F39 p0 h Q) : callP Try.prog 39 [Value.slice p0.a p0.len p0.cap] (tupC [cSl, cI .i64, cB]) h Q :=
  spec_of (prem_of prog_ok dep_ok eqs_ok rfl (by kernel_rfl)) mix_ok ((e39 p0 h Q).mpr hk)
def a40 : Ann := { prom := 0, refs := [], dyn := 0, bcd := fun s => match s with | _ => none, eqs := memL eqL, cdc := cdcs, res := ress, pure := memL [] }
def n40 : An := (.seq (.reg []) (.seq (.join [(20, false, cB)] 2097120 (.reg [(0, []), (1, []), (2, []), (3, []), (4, []), (5, []), (6, []), (7, []), (10, []), (11, []), (12, []), (8, []), (9, []), (13, []), (14, []), (15, [])]) (.cond (.seq (.reg []) .leaf) .leaf)) (.seq (.reg [(0, []), (1, []), (2, []), (3, []), (6, []), (4, []), (5, []), (7, [4]), (8, []), (9, []), (10, []), (11, []), (12, [])]) (.seq (.reg []) .leaf))))
/-- (*consols/consolsref8.Box).Put -/
def F40 (p0 : Option Addr) (p1 : Sl) (h : Hp) (Q : Bool → Hp → Prop) : Prop :=
  joinP
    (fun (t1 : Bool) (h1 : Hp) =>
      condP t1 (Q false h1)
        (nilP p0 fun (a1 : Addr) =>
          loadP cSl (a1.add (0 : Nat)) h1 fun (s1 : Sl) =>
            allocP (Obj.cells { toList := [] : Array Value } (5 : Nat)) h1 fun (k1 : Nat) (h2 : Hp) =>
              appendP (cI IntKind.u8) (5 : Nat) (1 : Nat) (some { block := k1, off := (0 : Nat) : Addr }) (0 : Nat) (0 : Nat) p1.a p1.len h2 fun (p1 : Option Addr) (k2 k3 : Nat) (h3 : Hp) =>
                (h3.rds (a1.add (0 : Nat)) [Value.slice s1.a s1.len s1.cap] ∧ True) ∧
                  allocP (Obj.cells { toList := [Value.slice p1 k2 k3] : Array Value } (23 : Nat)) h3 fun (k4 : Nat) (h4 : Hp) =>
                    appendP cSl (23 : Nat) (24 : Nat) s1.a s1.len s1.cap (some { block := k4, off := (0 : Nat) : Addr }) (1 : Nat) h4 fun (p2 : Option Addr) (k5 k6 : Nat) (h5 : Hp) =>
                      nilP p0 fun (a2 : Addr) => storeP cSl (a2.add (0 : Nat)) { a := p2, len := k5, cap := k6 : Sl } h5 fun (h6 : Hp) => Q true h6))
    fun (J1 : Bool → Hp → Prop) =>
    nilP p0 fun (a3 : Addr) =>
      loadP cB { block := a3.block, off := a3.off + (2 : Nat) : Addr } h fun (t2 : Bool) =>
        condP t2 (J1 true h)
          (nilP p0 fun (a4 : Addr) =>
            nilP p0 fun (a5 : Addr) => loadP cSl (a4.add (0 : Nat)) h fun (s2 : Sl) => loadP (cI IntKind.i64) { block := a5.block, off := a5.off + (1 : Nat) : Addr } h fun (n1 : Int) => J1 (decide ((↑s2.len : Int) ≥ n1)) h)
theorem e40 (p0 : Option Addr) (p1 : Sl) (h : Hp) (Q : Bool → Hp → Prop) : fnD a40 Try.prog 40 n40 (cB) [Value.pointer p0, Value.slice p1.a p1.len p1.cap] h Q = F40 p0 p1 h Q := by kernel_rfl
theorem c40 {p0 : Option Addr} {p1 : Sl} {h : Hp} {Q : Bool → Hp → Prop} (hk : F40 p0 p1 h Q) : callP Try.prog 40 [Value.pointer p0, Value.slice p1.a p1.len p1.cap] (cB) h Q :=
  spec_of (prem_of prog_ok dep_ok eqs_ok rfl (by kernel_rfl)) mix_ok ((e40 p0 p1 h Q).mpr hk)
def a41 : Ann := { prom := 0, refs := [], dyn := 0, bcd := fun s => match s with | _ => none, eqs := memL eqL, cdc := cdcs, res := ress, pure := memL [] }
def n41 : An := (.seq (.reg []) (.seq (.seq (.reg []) (.cond (.seq (.reg []) .leaf) .leaf)) (.seq (.reg []) (.seq (.reg []) (.seq (.reg []) .leaf)))))
/-- (*consols/consolsref8.Box).Take -/
def F41 (p0 : Option Addr) (h : Hp) (Q : Sl × Bool → Hp → Prop) : Prop :=
  nilP p0 fun (a1 : Addr) =>
    loadP cSl (a1.add (0 : Nat)) h fun (s1 : Sl) =>
      condP ((↑s1.len : Int) == (0 : Int)) (Q ({ a := none, len := (0 : Nat), cap := (0 : Nat) : Sl }, false) h)
        (nilP p0 fun (a2 : Addr) =>
          loadP cSl (a2.add (0 : Nat)) h fun (s2 : Sl) =>
            idxP s2.a s2.len (0 : Int) fun (a3 : Addr) =>
              loadP cSl (a3.add (0 : Nat)) h fun (s3 : Sl) =>
                nilP p0 fun (a4 : Addr) =>
                  loadP cSl (a4.add (0 : Nat)) h fun (s4 : Sl) =>
                    cutP s4.len s4.cap (some (1 : Int)) none fun (k1 k2 : Nat) =>
                      nilP p0 fun (a5 : Addr) => storeP cSl (a5.add (0 : Nat)) { a := cutA s4.a k1 s4.cap (1 : Nat), len := k2 - k1, cap := s4.cap - k1 : Sl } h fun (h1 : Hp) => Q (s3, true) h1)
theorem e41 (p0 : Option Addr) (h : Hp) (Q : Sl × Bool → Hp → Prop) : fnD a41 Try.prog 41 n41 (tupC [cSl, cB]) [Value.pointer p0] h Q = F41 p0 h Q := by kernel_rfl
theorem c41 {p0 : Option Addr} {h : Hp} {Q : Sl × Bool → Hp → Prop} (hk : F41 p0 h Q) : callP Try.prog 41 [Value.pointer p0] (tupC [cSl, cB]) h Q :=
  spec_of (prem_of prog_ok dep_ok eqs_ok rfl (by kernel_rfl)) mix_ok ((e41 p0 h Q).mpr hk)
def a42 : Ann := { prom := 0, refs := [], dyn := 0, bcd := fun s => match s with | _ => none, eqs := memL eqL, cdc := cdcs, res := ress, pure := memL [] }
def n42 : An := (.seq (.reg []) (.seq (.seq (.reg []) (.cond (.seq (.reg []) .leaf) .leaf)) (.seq (.reg []) .leaf)))
/-- (*consols/mail.Box).Len -/
def F42 (p0 : Option Addr) (h : Hp) (Q : Int → Hp → Prop) : Prop :=
 condP p0.isNone (Q (0 : Int) h) (nilP p0 fun (a1 : Addr) => loadP cC (a1.add (0 : Nat)) h fun (p1 : Option Nat) => lenCP p1 h fun (n1 : Int) => Q n1 h)
theorem e42 (p0 : Option Addr) (h : Hp) (Q : Int → Hp → Prop) : fnD a42 Try.prog 42 n42 (cI .i64) [Value.pointer p0] h Q = F42 p0 h Q := by kernel_rfl
theorem c42 {p0 : Option Addr} {h : Hp} {Q : Int → Hp → Prop} (hk : F42 p0 h Q) : callP Try.prog 42 [Value.pointer p0] (cI .i64) h Q :=
  spec_of (prem_of prog_ok dep_ok eqs_ok rfl (by kernel_rfl)) mix_ok ((e42 p0 h Q).mpr hk)
def a43 : Ann := { prom := 0, refs := [], dyn := 0, bcd := fun s => match s with | _ => none, eqs := memL eqL, cdc := cdcs, res := ress, pure := memL [] }
def n43 : An := (.seq (.reg []) (.seq (.reg []) .leaf))
/-- consols/blot.New -/
def F43  (h : Hp) (Q : Option Addr → Hp → Prop) : Prop :=
  allocP (Obj.cells { toList := [Value.slice none (0 : Nat) (0 : Nat), Value.int IntKind.u64 (0 : Int)] : Array Value } (107 : Nat)) h fun (k1 : Nat) (h1 : Hp) => Q (some { block := k1, off := (0 : Nat) : Addr }) h1
theorem e43  (h : Hp) (Q : Option Addr → Hp → Prop) : fnD a43 Try.prog 43 n43 (cP) [] h Q = F43  h Q := by kernel_rfl
theorem c43  {h : Hp} {Q : Option Addr → Hp → Prop} (hk : F43  h Q) : callP Try.prog 43 [] (cP) h Q :=
  spec_of (prem_of prog_ok dep_ok eqs_ok rfl (by kernel_rfl)) mix_ok ((e43  h Q).mpr hk)
def a44 : Ann := { prom := 24, refs := [(14, 3)], dyn := 0, bcd := fun s => match s with | 3 => some (cTrade) | 4 => some (cTrade) | _ => none, eqs := memL eqL, cdc := cdcs, res := ress, pure := memL [] }
def n44 : An := (.seq (.reg []) (.seq (.seq (.reg []) (.cond (.seq (.reg []) .leaf) .leaf)) (.seq (.reg []) (.seq (.reg [(0, []), (1, []), (2, []), (3, []), (5, []), (4, []), (6, []), (7, []), (8, []), (9, []), (10, [])]) (.seq (.reg [(0, []), (1, []), (2, []), (3, []), (5, []), (4, []), (6, [4]), (7, []), (8, []), (9, []), (10, [])]) (.seq (.reg []) .leaf))))))
/-- (*consols/blot.Blot).Add -/
def F44 (p0 : Option Addr) (p1 : Trade) (h : Hp) (Q : Trade → Hp → Prop) : Prop :=
  condP p0.isNone (Q { ID := (0 : Int), Bond := (0 : Int), Buyer := (0 : Int), Seller := (0 : Int), Price := (0 : Int), Qty := (0 : Int), Ask := (0 : Int), Tick := (0 : Int) : Trade } h)
    (nilP p0 fun (a1 : Addr) =>
      loadP cSl (a1.add (0 : Nat)) h fun (s1 : Sl) =>
        nilP p0 fun (a2 : Addr) =>
          loadP cSl (a2.add (0 : Nat)) h fun (s2 : Sl) =>
            allocP
              (Obj.cells
                {
                  toList :=
                    [Value.int IntKind.i64 (IntKind.i64.wrap ((↑s1.len : Int) + (1 : Int))), Value.int IntKind.i64 p1.Bond, Value.int IntKind.i64 p1.Buyer, Value.int IntKind.i64 p1.Seller, Value.int IntKind.i64 p1.Price,
                      Value.int IntKind.i64 p1.Qty, Value.int IntKind.i64 p1.Ask, Value.int IntKind.i64 p1.Tick] :
                  Array Value }
                (87 : Nat))
              h fun (k1 : Nat) (h1 : Hp) =>
              appendP cTrade (87 : Nat) (64 : Nat) s2.a s2.len s2.cap (some { block := k1, off := (0 : Nat) : Addr }) (1 : Nat) h1 fun (p1_1 : Option Addr) (k2 k3 : Nat) (h2 : Hp) =>
                nilP p0 fun (a3 : Addr) =>
                  storeP cSl (a3.add (0 : Nat)) { a := p1_1, len := k2, cap := k3 : Sl } h2 fun (h3 : Hp) =>
                    nilP p0 fun (a4 : Addr) =>
                      loadP (cI IntKind.u64) { block := a4.block, off := a4.off + (1 : Nat) : Addr } h3 fun (n1 : Int) =>
                        callP Try.prog (53 : Nat)
                          [Value.agg
                              {
                                toList :=
                                  [Value.int IntKind.i64 (IntKind.i64.wrap ((↑s1.len : Int) + (1 : Int))), Value.int IntKind.i64 p1.Bond, Value.int IntKind.i64 p1.Buyer, Value.int IntKind.i64 p1.Seller, Value.int IntKind.i64 p1.Price,
                                    Value.int IntKind.i64 p1.Qty, Value.int IntKind.i64 p1.Ask, Value.int IntKind.i64 p1.Tick] :
                                Array Value }]
                          cSl h3 fun (s3 : Sl) (h4 : Hp) =>
                          (h4.rds { block := a4.block, off := a4.off + (1 : Nat) : Addr } [Value.int IntKind.u64 n1] ∧ True) ∧
                            callP Try.prog (21 : Nat) [Value.int IntKind.u64 n1, Value.slice s3.a s3.len s3.cap] (cI IntKind.u64) h4 fun (n2 : Int) (h5 : Hp) =>
                              nilP p0 fun (a5 : Addr) =>
                                storeP (cI IntKind.u64) { block := a5.block, off := a5.off + (1 : Nat) : Addr } n2 h5 fun (h6 : Hp) =>
                                  Q { ID := IntKind.i64.wrap ((↑s1.len : Int) + (1 : Int)), Bond := p1.Bond, Buyer := p1.Buyer, Seller := p1.Seller, Price := p1.Price, Qty := p1.Qty, Ask := p1.Ask, Tick := p1.Tick : Trade } h6)
theorem e44 (p0 : Option Addr) (p1 : Trade) (h : Hp) (Q : Trade → Hp → Prop) : fnD a44 Try.prog 44 n44 (cTrade) [Value.pointer p0, cTrade.enc p1] h Q = F44 p0 p1 h Q := by kernel_rfl
theorem c44 {p0 : Option Addr} {p1 : Trade} {h : Hp} {Q : Trade → Hp → Prop} (hk : F44 p0 p1 h Q) : callP Try.prog 44 [Value.pointer p0, cTrade.enc p1] (cTrade) h Q :=
  spec_of (prem_of prog_ok dep_ok eqs_ok rfl (by kernel_rfl)) mix_ok ((e44 p0 p1 h Q).mpr hk)
def a45 : Ann := { prom := 24, refs := [(11, 3)], dyn := 0, bcd := fun s => match s with | 3 => some (cTrade) | 4 => some (cTrade) | _ => none, eqs := memL eqL, cdc := cdcs, res := ress, pure := memL [] }
def n45 : An := (.seq (.reg []) (.seq (.reg []) (.seq (.reg [(0, []), (1, []), (2, []), (3, []), (5, []), (4, []), (6, []), (7, []), (8, []), (9, []), (10, [])]) (.seq (.reg []) .leaf))))
/-- (*consols/consolsref21.Blot).Add -/
def F45 (p0 : Option Addr) (p1 : Trade) (h : Hp) (Q : Trade → Hp → Prop) : Prop :=
  nilP p0 fun (a1 : Addr) =>
    loadP cSl (a1.add (0 : Nat)) h fun (s1 : Sl) =>
      nilP p0 fun (a2 : Addr) =>
        loadP cSl (a2.add (0 : Nat)) h fun (s2 : Sl) =>
          allocP
            (Obj.cells
              {
                toList :=
                  [Value.int IntKind.i64 (IntKind.i64.wrap ((↑s1.len : Int) + (1 : Int))), Value.int IntKind.i64 p1.Bond, Value.int IntKind.i64 p1.Buyer, Value.int IntKind.i64 p1.Seller, Value.int IntKind.i64 p1.Price,
                    Value.int IntKind.i64 p1.Qty, Value.int IntKind.i64 p1.Ask, Value.int IntKind.i64 p1.Tick] :
                Array Value }
              (87 : Nat))
            h fun (k1 : Nat) (h1 : Hp) =>
            appendP cTrade (87 : Nat) (64 : Nat) s2.a s2.len s2.cap (some { block := k1, off := (0 : Nat) : Addr }) (1 : Nat) h1 fun (p1_1 : Option Addr) (k2 k3 : Nat) (h2 : Hp) =>
              nilP p0 fun (a3 : Addr) =>
                storeP cSl (a3.add (0 : Nat)) { a := p1_1, len := k2, cap := k3 : Sl } h2 fun (h3 : Hp) =>
                  Q { ID := IntKind.i64.wrap ((↑s1.len : Int) + (1 : Int)), Bond := p1.Bond, Buyer := p1.Buyer, Seller := p1.Seller, Price := p1.Price, Qty := p1.Qty, Ask := p1.Ask, Tick := p1.Tick : Trade } h3
theorem e45 (p0 : Option Addr) (p1 : Trade) (h : Hp) (Q : Trade → Hp → Prop) : fnD a45 Try.prog 45 n45 (cTrade) [Value.pointer p0, cTrade.enc p1] h Q = F45 p0 p1 h Q := by kernel_rfl
theorem c45 {p0 : Option Addr} {p1 : Trade} {h : Hp} {Q : Trade → Hp → Prop} (hk : F45 p0 p1 h Q) : callP Try.prog 45 [Value.pointer p0, cTrade.enc p1] (cTrade) h Q :=
  spec_of (prem_of prog_ok dep_ok eqs_ok rfl (by kernel_rfl)) mix_ok ((e45 p0 p1 h Q).mpr hk)
def a46 : Ann := { prom := 0, refs := [], dyn := 0, bcd := fun s => match s with | _ => none, eqs := memL eqL, cdc := cdcs, res := ress, pure := memL [] }
def n46 : An := (.seq (.reg []) (.seq (.seq (.reg []) (.cond (.seq (.reg []) .leaf) .leaf)) (.seq (.reg []) .leaf)))
/-- (*consols/blot.Blot).Head -/
def F46 (p0 : Option Addr) (h : Hp) (Q : Int → Hp → Prop) : Prop :=
 condP p0.isNone (Q (0 : Int) h) (nilP p0 fun (a1 : Addr) => loadP (cI IntKind.u64) { block := a1.block, off := a1.off + (1 : Nat) : Addr } h fun (n1 : Int) => Q n1 h)
theorem e46 (p0 : Option Addr) (h : Hp) (Q : Int → Hp → Prop) : fnD a46 Try.prog 46 n46 (cI .u64) [Value.pointer p0] h Q = F46 p0 h Q := by kernel_rfl
theorem c46 {p0 : Option Addr} {h : Hp} {Q : Int → Hp → Prop} (hk : F46 p0 h Q) : callP Try.prog 46 [Value.pointer p0] (cI .u64) h Q :=
  spec_of (prem_of prog_ok dep_ok eqs_ok rfl (by kernel_rfl)) mix_ok ((e46 p0 h Q).mpr hk)
def a47 : Ann := { prom := 0, refs := [], dyn := 0, bcd := fun s => match s with | _ => none, eqs := memL eqL, cdc := cdcs, res := ress, pure := memL [] }
def n47 : An := (.seq (.reg []) (.seq (.reg []) (.seq (.seq (.reg []) (.cond (.seq (.reg []) .leaf) .leaf)) (.seq (.reg []) .leaf))))
/-- (*consols/consolsref21.Blot).Head -/
def F47 (p0 : Option Addr) (h : Hp) (Q : Int → Hp → Prop) : Prop :=
  nilP p0 fun (a1 : Addr) =>
    loadP cSl (a1.add (0 : Nat)) h fun (s1 : Sl) =>
      callP Try.prog (52 : Nat) [Value.slice s1.a s1.len s1.cap] cSl h fun (s2 : Sl) (h1 : Hp) =>
        condP ((↑s2.len : Int) == (0 : Int)) (Q (0 : Int) h1)
          (idxP s2.a s2.len (IntKind.i64.wrap ((↑s2.len : Int) - (1 : Int))) fun (a2 : Addr) => loadP (cI IntKind.u64) (a2.add ((IntKind.i64.wrap ((↑s2.len : Int) - (1 : Int))).toNat * (1 : Nat))) h1 fun (n1 : Int) => Q n1 h1)
theorem e47 (p0 : Option Addr) (h : Hp) (Q : Int → Hp → Prop) : fnD a47 Try.prog 47 n47 (cI .u64) [Value.pointer p0] h Q = F47 p0 h Q := by kernel_rfl
theorem c47 {p0 : Option Addr} {h : Hp} {Q : Int → Hp → Prop} (hk : F47 p0 h Q) : callP Try.prog 47 [Value.pointer p0] (cI .u64) h Q :=
  spec_of (prem_of prog_ok dep_ok eqs_ok rfl (by kernel_rfl)) mix_ok ((e47 p0 h Q).mpr hk)
def a48 : Ann := { prom := 0, refs := [], dyn := 0, bcd := fun s => match s with | _ => none, eqs := memL eqL, cdc := cdcs, res := ress, pure := memL [] }
def n48 : An := (.seq (.reg []) (.seq (.seq (.reg []) (.cond (.seq (.reg []) .leaf) .leaf)) (.seq (.seq (.reg []) (.block (.loop [(5, false, cI .i64)] 67106864 (.seq (.seq (.reg []) (.cond .leaf .leaf)) (.seq (.block (.seq (.reg [(0, []), (1, []), (2, []), (4, []), (5, []), (6, []), (3, []), (7, []), (8, [])]) (.cond (.seq (.reg []) .leaf) .leaf))) (.reg [])))))) (.seq (.reg []) .leaf))))
/-- consols/consolsref21.Same -/
def F48 (p0 : Sl) (p1 : Sl) (h : Hp) (Q : Bool → Hp → Prop) : Prop :=
  condP ((↑p0.len : Int) != (↑p1.len : Int)) (Q false h)
    (loopP (0 : Int) h fun (J1 : Int → Hp → Prop) (n1 : Int) (h1 : Hp) =>
      condP (decide (n1 < (↑p0.len : Int)))
        (idxP p0.a p0.len n1 fun (a1 : Addr) =>
          idxP p1.a p1.len n1 fun (a2 : Addr) =>
            loadP cTrade (a1.add (n1.toNat * (8 : Nat))) h1 fun (x1 : Trade) =>
              loadP cTrade (a2.add (n1.toNat * (8 : Nat))) h1 fun (x2 : Trade) =>
                condP (!(x1.ID == x2.ID && (x1.Bond == x2.Bond && (x1.Buyer == x2.Buyer && (x1.Seller == x2.Seller && (x1.Price == x2.Price && (x1.Qty == x2.Qty && (x1.Ask == x2.Ask && x1.Tick == x2.Tick)))))))) (Q false h1)
                  (J1 (IntKind.i64.wrap (n1 + (1 : Int))) h1))
        (Q true h1))
theorem e48 (p0 : Sl) (p1 : Sl) (h : Hp) (Q : Bool → Hp → Prop) : fnD a48 Try.prog 48 n48 (cB) [Value.slice p0.a p0.len p0.cap, Value.slice p1.a p1.len p1.cap] h Q = F48 p0 p1 h Q := by kernel_rfl
theorem c48 {p0 : Sl} {p1 : Sl} {h : Hp} {Q : Bool → Hp → Prop} (hk : F48 p0 p1 h Q) : callP Try.prog 48 [Value.slice p0.a p0.len p0.cap, Value.slice p1.a p1.len p1.cap] (cB) h Q :=
  spec_of (prem_of prog_ok dep_ok eqs_ok rfl (by kernel_rfl)) mix_ok ((e48 p0 p1 h Q).mpr hk)
def a49 : Ann := { prom := 0, refs := [], dyn := 0, bcd := fun s => match s with | _ => none, eqs := memL eqL, cdc := cdcs, res := ress, pure := memL [] }
def n49 : An := (.seq (.reg []) (.seq (.seq (.reg []) (.cond (.seq (.reg []) .leaf) .leaf)) (.seq (.reg []) .leaf)))
/-- (*consols/blot.Blot).List -/
def F49 (p0 : Option Addr) (h : Hp) (Q : Sl → Hp → Prop) : Prop :=
  condP p0.isNone (Q { a := none, len := (0 : Nat), cap := (0 : Nat) : Sl } h)
    (nilP p0 fun (a1 : Addr) => loadP cSl (a1.add (0 : Nat)) h fun (s1 : Sl) => callP Try.prog (59 : Nat) [Value.slice s1.a s1.len s1.cap] cSl h fun (s2 : Sl) (h1 : Hp) => Q s2 h1)
theorem e49 (p0 : Option Addr) (h : Hp) (Q : Sl → Hp → Prop) : fnD a49 Try.prog 49 n49 (cSl) [Value.pointer p0] h Q = F49 p0 h Q := by kernel_rfl
theorem c49 {p0 : Option Addr} {h : Hp} {Q : Sl → Hp → Prop} (hk : F49 p0 h Q) : callP Try.prog 49 [Value.pointer p0] (cSl) h Q :=
  spec_of (prem_of prog_ok dep_ok eqs_ok rfl (by kernel_rfl)) mix_ok ((e49 p0 h Q).mpr hk)
def a50 : Ann := { prom := 12, refs := [(11, 2), (15, 3), (20, 3)], dyn := 0, bcd := fun s => match s with | 2 => some (cTrade) | 3 => some (cTrade) | _ => none, eqs := memL eqL, cdc := cdcs, res := ress, pure := memL [] }
def n50 : An := (.seq (.reg []) (.seq (.reg []) (.seq (.reg []) (.seq (.reg []) .leaf))))
/-- consols/consolslaw21.known -/
def F50  (h : Hp) (Q : Bool → Hp → Prop) : Prop :=
  callP Try.prog (43 : Nat) [] cP h fun (p1 : Option Addr) (h1 : Hp) =>
    callP Try.prog (44 : Nat)
      [Value.pointer p1,
        Value.agg
          {
            toList :=
              [Value.int IntKind.i64 (0 : Int), Value.int IntKind.i64 (0 : Int), Value.int IntKind.i64 (0 : Int), Value.int IntKind.i64 (0 : Int), Value.int IntKind.i64 (5 : Int), Value.int IntKind.i64 (0 : Int),
                Value.int IntKind.i64 (0 : Int), Value.int IntKind.i64 (0 : Int)] :
            Array Value }]
      cTrade h1 fun (x1 : Trade) (h2 : Hp) =>
      callP Try.prog (44 : Nat)
        [Value.pointer p1,
          Value.agg
            {
              toList :=
                [Value.int IntKind.i64 (0 : Int), Value.int IntKind.i64 (0 : Int), Value.int IntKind.i64 (0 : Int), Value.int IntKind.i64 (0 : Int), Value.int IntKind.i64 (6 : Int), Value.int IntKind.i64 (0 : Int),
                  Value.int IntKind.i64 (0 : Int), Value.int IntKind.i64 (0 : Int)] :
              Array Value }]
        cTrade h2 fun (x2 : Trade) (h3 : Hp) =>
        condP (x1.ID == (1 : Int))
          (condP (x2.ID == (2 : Int))
            (condP (x2.Price == (6 : Int))
              (callP Try.prog (49 : Nat) [Value.pointer p1] cSl h3 fun (s1 : Sl) (h4 : Hp) =>
                condP ((↑s1.len : Int) == (2 : Int)) (callP Try.prog (46 : Nat) [Value.pointer p1] (cI IntKind.u64) h4 fun (n1 : Int) (h5 : Hp) => Q (n1 != (0 : Int)) h5) (Q false h4))
              (Q false h3))
            (Q false h3))
          (Q false h3)
theorem e50  (h : Hp) (Q : Bool → Hp → Prop) : fnD a50 Try.prog 50 n50 (cB) [] h Q = F50  h Q := by kernel_rfl
theorem c50  {h : Hp} {Q : Bool → Hp → Prop} (hk : F50  h Q) : callP Try.prog 50 [] (cB) h Q :=
  spec_of (prem_of prog_ok dep_ok eqs_ok rfl (by kernel_rfl)) mix_ok ((e50  h Q).mpr hk)
def a51 : Ann := { prom := 64, refs := [], dyn := 0, bcd := fun s => match s with | 6 => some (cTrade) | _ => none, eqs := memL eqL, cdc := cdcs, res := ress, pure := memL [] }
def n51 : An := (.seq (.reg []) (.seq (.reg []) (.seq (.reg []) (.seq (.seq (.reg []) (.block (.loop [(3, false, cSl), (4, false, cI .u64), (9, false, cI .i64)] 4193880 (.seq (.reg []) (.seq (.cond .leaf .leaf) (.seq (.block (.seq (.reg []) (.seq (.reg []) (.reg [])))) (.reg []))))))) (.seq (.reg []) .leaf)))))
/-- consols/blot.Heads -/
def F51 (p0 : Sl) (h : Hp) (Q : Sl → Hp → Prop) : Prop :=
  loopP ({ a := none, len := (0 : Nat), cap := (0 : Nat) : Sl }, (0 : Int), (0 : Int)) h fun (J1 : Sl × Int × Int → Hp → Prop) (z1 : Sl × Int × Int) (h1 : Hp) =>
    condP (decide (z1.snd.snd < (↑p0.len : Int)))
      (idxP p0.a p0.len z1.snd.snd fun (a1 : Addr) =>
        loadP cTrade (a1.add (z1.snd.snd.toNat * (8 : Nat))) h1 fun (x1 : Trade) =>
          callP Try.prog (53 : Nat)
            [Value.agg
                {
                  toList :=
                    [Value.int IntKind.i64 x1.ID, Value.int IntKind.i64 x1.Bond, Value.int IntKind.i64 x1.Buyer, Value.int IntKind.i64 x1.Seller, Value.int IntKind.i64 x1.Price, Value.int IntKind.i64 x1.Qty, Value.int IntKind.i64 x1.Ask,
                      Value.int IntKind.i64 x1.Tick] :
                  Array Value }]
            cSl h1 fun (s1 : Sl) (h2 : Hp) =>
            callP Try.prog (21 : Nat) [Value.int IntKind.u64 z1.snd.fst, Value.slice s1.a s1.len s1.cap] (cI IntKind.u64) h2 fun (n1 : Int) (h3 : Hp) =>
              allocP (Obj.cells { toList := [Value.int IntKind.u64 n1] : Array Value } (30 : Nat)) h3 fun (k1 : Nat) (h4 : Hp) =>
                appendP (cI IntKind.u64) (30 : Nat) (8 : Nat) z1.fst.a z1.fst.len z1.fst.cap (some { block := k1, off := (0 : Nat) : Addr }) (1 : Nat) h4 fun (p1 : Option Addr) (k2 k3 : Nat) (h5 : Hp) =>
                  J1 ({ a := p1, len := k2, cap := k3 : Sl }, n1, IntKind.i64.wrap (z1.snd.snd + (1 : Int))) h5)
      (Q z1.fst h1)
theorem e51 (p0 : Sl) (h : Hp) (Q : Sl → Hp → Prop) : fnD a51 Try.prog 51 n51 (cSl) [Value.slice p0.a p0.len p0.cap] h Q = F51 p0 h Q := by kernel_rfl
theorem c51 {p0 : Sl} {h : Hp} {Q : Sl → Hp → Prop} (hk : F51 p0 h Q) : callP Try.prog 51 [Value.slice p0.a p0.len p0.cap] (cSl) h Q :=
  spec_of (prem_of prog_ok dep_ok eqs_ok rfl (by kernel_rfl)) mix_ok ((e51 p0 h Q).mpr hk)
def a52 : Ann := { prom := 0, refs := [], dyn := 0, bcd := fun s => match s with | _ => none, eqs := memL eqL, cdc := cdcs, res := ress, pure := memL [] }
def n52 : An := (.seq (.reg []) (.seq (.reg []) (.seq (.reg []) (.seq (.seq (.reg []) (.block (.loop [(3, false, cSl), (4, false, cI .u64), (5, false, cI .i64)] 8388600 (.seq (.seq (.reg []) (.cond .leaf .leaf)) (.seq (.block (.seq (.reg []) (.reg []))) (.reg [])))))) (.seq (.reg []) .leaf)))))
/-- consols/consolsref21.Heads -/
def F52 (p0 : Sl) (h : Hp) (Q : Sl → Hp → Prop) : Prop :=
  loopP ({ a := none, len := (0 : Nat), cap := (0 : Nat) : Sl }, (0 : Int), (0 : Int)) h fun (J1 : Sl × Int × Int → Hp → Prop) (z1 : Sl × Int × Int) (h1 : Hp) =>
    condP (decide (z1.snd.snd < (↑p0.len : Int)))
      (idxP p0.a p0.len z1.snd.snd fun (a1 : Addr) =>
        loadP cTrade (a1.add (z1.snd.snd.toNat * (8 : Nat))) h1 fun (x1 : Trade) =>
          callP Try.prog (54 : Nat)
            [Value.agg
                {
                  toList :=
                    [Value.int IntKind.i64 x1.ID, Value.int IntKind.i64 x1.Bond, Value.int IntKind.i64 x1.Buyer, Value.int IntKind.i64 x1.Seller, Value.int IntKind.i64 x1.Price, Value.int IntKind.i64 x1.Qty, Value.int IntKind.i64 x1.Ask,
                      Value.int IntKind.i64 x1.Tick] :
                  Array Value }]
            cSl h1 fun (s1 : Sl) (h2 : Hp) =>
            callP Try.prog (22 : Nat) [Value.int IntKind.u64 z1.snd.fst, Value.slice s1.a s1.len s1.cap] (cI IntKind.u64) h2 fun (n1 : Int) (h3 : Hp) =>
              allocP (Obj.cells { toList := [Value.int IntKind.u64 n1] : Array Value } (30 : Nat)) h3 fun (k1 : Nat) (h4 : Hp) =>
                appendP (cI IntKind.u64) (30 : Nat) (8 : Nat) z1.fst.a z1.fst.len z1.fst.cap (some { block := k1, off := (0 : Nat) : Addr }) (1 : Nat) h4 fun (p1 : Option Addr) (k2 k3 : Nat) (h5 : Hp) =>
                  J1 ({ a := p1, len := k2, cap := k3 : Sl }, n1, IntKind.i64.wrap (z1.snd.snd + (1 : Int))) h5)
      (Q z1.fst h1)
theorem e52 (p0 : Sl) (h : Hp) (Q : Sl → Hp → Prop) : fnD a52 Try.prog 52 n52 (cSl) [Value.slice p0.a p0.len p0.cap] h Q = F52 p0 h Q := by kernel_rfl
theorem c52 {p0 : Sl} {h : Hp} {Q : Sl → Hp → Prop} (hk : F52 p0 h Q) : callP Try.prog 52 [Value.slice p0.a p0.len p0.cap] (cSl) h Q :=
  spec_of (prem_of prog_ok dep_ok eqs_ok rfl (by kernel_rfl)) mix_ok ((e52 p0 h Q).mpr hk)
def a53 : Ann := { prom := 2, refs := [(3, 1), (5, 1), (7, 1), (9, 1), (11, 1), (13, 1), (15, 1), (17, 1)], dyn := 0, bcd := fun s => match s with | 1 => some (cTrade) | _ => none, eqs := memL eqL, cdc := cdcs, res := ress, pure := memL [] }
def n53 : An := (.seq (.reg []) (.seq (.reg []) .leaf))
/-- consols/blot.Bytes -/
def F53 (p0 : Trade) (h : Hp) (Q : Sl → Hp → Prop) : Prop :=
  allocP
    (Obj.cells
      {
        toList :=
          [Value.int IntKind.i64 p0.ID, Value.int IntKind.i64 p0.Bond, Value.int IntKind.i64 p0.Buyer, Value.int IntKind.i64 p0.Seller, Value.int IntKind.i64 p0.Price, Value.int IntKind.i64 p0.Qty, Value.int IntKind.i64 p0.Ask,
            Value.int IntKind.i64 p0.Tick] :
        Array Value }
      (2 : Nat))
    h fun (k1 : Nat) (h1 : Hp) => callP Try.prog (60 : Nat) [Value.slice (some { block := k1, off := (0 : Nat) : Addr }) (8 : Nat) (8 : Nat)] cSl h1 fun (s1 : Sl) (h2 : Hp) => Q s1 h2
theorem e53 (p0 : Trade) (h : Hp) (Q : Sl → Hp → Prop) : fnD a53 Try.prog 53 n53 (cSl) [cTrade.enc p0] h Q = F53 p0 h Q := by kernel_rfl
theorem c53 {p0 : Trade} {h : Hp} {Q : Sl → Hp → Prop} (hk : F53 p0 h Q) : callP Try.prog 53 [cTrade.enc p0] (cSl) h Q :=
  spec_of (prem_of prog_ok dep_ok eqs_ok rfl (by kernel_rfl)) mix_ok ((e53 p0 h Q).mpr hk)
def a54 : Ann := { prom := 2, refs := [(3, 1), (5, 1), (7, 1), (9, 1), (11, 1), (13, 1), (15, 1), (17, 1)], dyn := 0, bcd := fun s => match s with | 1 => some (cTrade) | _ => none, eqs := memL eqL, cdc := cdcs, res := ress, pure := memL [] }
def n54 : An := (.seq (.reg []) (.seq (.reg []) .leaf))
/-- consols/consolsref21.Bytes -/
def F54 (p0 : Trade) (h : Hp) (Q : Sl → Hp → Prop) : Prop :=
  allocP
    (Obj.cells
      {
        toList :=
          [Value.int IntKind.i64 p0.ID, Value.int IntKind.i64 p0.Bond, Value.int IntKind.i64 p0.Buyer, Value.int IntKind.i64 p0.Seller, Value.int IntKind.i64 p0.Price, Value.int IntKind.i64 p0.Qty, Value.int IntKind.i64 p0.Ask,
            Value.int IntKind.i64 p0.Tick] :
        Array Value }
      (2 : Nat))
    h fun (k1 : Nat) (h1 : Hp) => callP Try.prog (61 : Nat) [Value.slice (some { block := k1, off := (0 : Nat) : Addr }) (8 : Nat) (8 : Nat)] cSl h1 fun (s1 : Sl) (h2 : Hp) => Q s1 h2
theorem e54 (p0 : Trade) (h : Hp) (Q : Sl → Hp → Prop) : fnD a54 Try.prog 54 n54 (cSl) [cTrade.enc p0] h Q = F54 p0 h Q := by kernel_rfl
theorem c54 {p0 : Trade} {h : Hp} {Q : Sl → Hp → Prop} (hk : F54 p0 h Q) : callP Try.prog 54 [cTrade.enc p0] (cSl) h Q :=
  spec_of (prem_of prog_ok dep_ok eqs_ok rfl (by kernel_rfl)) mix_ok ((e54 p0 h Q).mpr hk)
def a55 : Ann := { prom := 0, refs := [], dyn := 0, bcd := fun s => match s with | _ => none, eqs := memL eqL, cdc := cdcs, res := ress, pure := memL [] }
def n55 : An := (.seq (.reg []) (.seq (.reg []) (.seq (.reg []) (.seq (.reg []) .leaf))))
/-- consols/consolsref4.Next -/
def F55 (p0 : Int) (p1 : Int) (h : Hp) (Q : Int → Hp → Prop) : Prop :=
  (65521 : Int) ≠ (0 : Int) ∧
    (0 : Int) ≤ (16 : Int) ∧
      (65521 : Int) ≠ (0 : Int) ∧
        (0 : Int) ≤ (16 : Int) ∧
          Q
            (orI IntKind.u32
              (shlI IntKind.u32 ((IntKind.u32.wrap (shrI IntKind.u32 p0 (16 : Int) + (IntKind.u32.wrap (IntKind.u32.wrap (andI IntKind.u32 p0 (65535 : Int) + IntKind.u32.wrap p1) + (1 : Int))).tmod (65521 : Int))).tmod (65521 : Int))
                (16 : Int))
              ((IntKind.u32.wrap (IntKind.u32.wrap (andI IntKind.u32 p0 (65535 : Int) + IntKind.u32.wrap p1) + (1 : Int))).tmod (65521 : Int)))
            h
theorem e55 (p0 : Int) (p1 : Int) (h : Hp) (Q : Int → Hp → Prop) : fnD a55 Try.prog 55 n55 (cI .u32) [Value.int IntKind.u32 p0, Value.int IntKind.u8 p1] h Q = F55 p0 p1 h Q := by kernel_rfl
theorem c55 {p0 : Int} {p1 : Int} {h : Hp} {Q : Int → Hp → Prop} (hk : F55 p0 p1 h Q) : callP Try.prog 55 [Value.int IntKind.u32 p0, Value.int IntKind.u8 p1] (cI .u32) h Q :=
  spec_of (prem_of prog_ok dep_ok eqs_ok rfl (by kernel_rfl)) mix_ok ((e55 p0 p1 h Q).mpr hk)
def a56 : Ann := { prom := 0, refs := [], dyn := 0, bcd := fun s => match s with | _ => none, eqs := memL eqL, cdc := cdcs, res := ress, pure := memL [] }
def n56 : An := (.seq (.reg []) (.seq (.seq (.reg []) (.cond (.seq (.reg []) .leaf) .leaf)) (.seq (.reg []) .leaf)))
/-- bytes.Clone -/
def F56 (p0 : Sl) (h : Hp) (Q : Sl → Hp → Prop) : Prop :=
  condP p0.a.isNone (Q { a := none, len := (0 : Nat), cap := (0 : Nat) : Sl } h)
    (allocP (Obj.cells { toList := [] : Array Value } (5 : Nat)) h fun (k1 : Nat) (h1 : Hp) =>
      appendP (cI IntKind.u8) (5 : Nat) (1 : Nat) (some { block := k1, off := (0 : Nat) : Addr }) (0 : Nat) (0 : Nat) p0.a p0.len h1 fun (p1 : Option Addr) (k2 k3 : Nat) (h2 : Hp) => Q { a := p1, len := k2, cap := k3 : Sl } h2)
theorem e56 (p0 : Sl) (h : Hp) (Q : Sl → Hp → Prop) : fnD a56 Try.prog 56 n56 (cSl) [Value.slice p0.a p0.len p0.cap] h Q = F56 p0 h Q := by kernel_rfl
theorem c56 {p0 : Sl} {h : Hp} {Q : Sl → Hp → Prop} (hk : F56 p0 h Q) : callP Try.prog 56 [Value.slice p0.a p0.len p0.cap] (cSl) h Q :=
  spec_of (prem_of prog_ok dep_ok eqs_ok rfl (by kernel_rfl)) mix_ok ((e56 p0 h Q).mpr hk)
def a57 : Ann := { prom := 0, refs := [], dyn := 0, bcd := fun s => match s with | _ => none, eqs := memL eqL, cdc := cdcs, res := ress, pure := memL [] }
def n57 : An := (.seq (.reg []) (.seq (.reg []) (.seq (.seq (.reg []) (.cond (.seq (.reg []) .leaf) .leaf)) (.seq (.reg []) (.seq (.reg [(0, []), (1, []), (2, []), (3, []), (4, []), (5, []), (6, []), (7, [])]) (.seq (.reg []) (.seq (.reg []) .leaf)))))))
/-- slices.Delete[[]consols/api.Frame,consols/api.Frame] -/
def F57 (p0 : Sl) (p1 : Int) (p2 : Int) (h : Hp) (Q : Sl → Hp → Prop) : Prop :=
  cut3P p0.cap (some p1) p2 (↑p0.len : Int) fun (k1 k2 k3 : Nat) =>
    condP (p1 == p2) (Q p0 h)
      (cutP p0.len p0.cap none (some p1) fun (k4 k5 : Nat) =>
        cutP p0.len p0.cap (some p2) none fun (k6 k7 : Nat) =>
          appendP cFrame (58 : Nat) (64 : Nat) (cutA p0.a k4 p0.cap (8 : Nat)) (k5 - k4) (p0.cap - k4) (cutA p0.a k6 p0.cap (8 : Nat)) (k7 - k6) h fun (p1 : Option Addr) (k8 k9 : Nat) (h1 : Hp) =>
            cutP k8 k9 (some (↑k8 : Int)) (some (↑p0.len : Int)) fun (k10 k11 : Nat) =>
              clearP cFrame { Seq := (0 : Int), Msg_Kind := (0 : Int), Msg_F_0 := (0 : Int), Msg_F_1 := (0 : Int), Msg_F_2 := (0 : Int), Msg_F_3 := (0 : Int), Msg_F_4 := (0 : Int), Msg_F_5 := (0 : Int) : Frame } (cutA p1 k10 k9 (8 : Nat))
                (k11 - k10) h1 fun (h2 : Hp) => Q { a := p1, len := k8, cap := k9 : Sl } h2)
theorem e57 (p0 : Sl) (p1 : Int) (p2 : Int) (h : Hp) (Q : Sl → Hp → Prop) : fnD a57 Try.prog 57 n57 (cSl) [Value.slice p0.a p0.len p0.cap, Value.int IntKind.i64 p1, Value.int IntKind.i64 p2] h Q = F57 p0 p1 p2 h Q := by kernel_rfl
theorem c57 {p0 : Sl} {p1 : Int} {p2 : Int} {h : Hp} {Q : Sl → Hp → Prop} (hk : F57 p0 p1 p2 h Q) : callP Try.prog 57 [Value.slice p0.a p0.len p0.cap, Value.int IntKind.i64 p1, Value.int IntKind.i64 p2] (cSl) h Q :=
  spec_of (prem_of prog_ok dep_ok eqs_ok rfl (by kernel_rfl)) mix_ok ((e57 p0 p1 p2 h Q).mpr hk)
def a58 : Ann := { prom := 0, refs := [], dyn := 0, bcd := fun s => match s with | _ => none, eqs := memL eqL, cdc := cdcs, res := ress, pure := memL [] }
def n58 : An := (.seq (.reg []) (.seq (.seq (.reg []) (.cond (.seq (.reg []) .leaf) .leaf)) (.seq (.reg []) .leaf)))
/-- slices.Clone[[]consols/api.Frame,consols/api.Frame] -/
def F58 (p0 : Sl) (h : Hp) (Q : Sl → Hp → Prop) : Prop :=
  condP p0.a.isNone (Q { a := none, len := (0 : Nat), cap := (0 : Nat) : Sl } h)
    (allocP (Obj.cells { toList := [] : Array Value } (58 : Nat)) h fun (k1 : Nat) (h1 : Hp) =>
      appendP cFrame (58 : Nat) (64 : Nat) (some { block := k1, off := (0 : Nat) : Addr }) (0 : Nat) (0 : Nat) p0.a p0.len h1 fun (p1 : Option Addr) (k2 k3 : Nat) (h2 : Hp) => Q { a := p1, len := k2, cap := k3 : Sl } h2)
theorem e58 (p0 : Sl) (h : Hp) (Q : Sl → Hp → Prop) : fnD a58 Try.prog 58 n58 (cSl) [Value.slice p0.a p0.len p0.cap] h Q = F58 p0 h Q := by kernel_rfl
theorem c58 {p0 : Sl} {h : Hp} {Q : Sl → Hp → Prop} (hk : F58 p0 h Q) : callP Try.prog 58 [Value.slice p0.a p0.len p0.cap] (cSl) h Q :=
  spec_of (prem_of prog_ok dep_ok eqs_ok rfl (by kernel_rfl)) mix_ok ((e58 p0 h Q).mpr hk)
def a59 : Ann := { prom := 0, refs := [], dyn := 0, bcd := fun s => match s with | _ => none, eqs := memL eqL, cdc := cdcs, res := ress, pure := memL [] }
def n59 : An := (.seq (.reg []) (.seq (.seq (.reg []) (.cond (.seq (.reg []) .leaf) .leaf)) (.seq (.reg []) .leaf)))
/-- slices.Clone[[]consols/api.Trade,consols/api.Trade] -/
def F59 (p0 : Sl) (h : Hp) (Q : Sl → Hp → Prop) : Prop :=
  condP p0.a.isNone (Q { a := none, len := (0 : Nat), cap := (0 : Nat) : Sl } h)
    (allocP (Obj.cells { toList := [] : Array Value } (87 : Nat)) h fun (k1 : Nat) (h1 : Hp) =>
      appendP cTrade (87 : Nat) (64 : Nat) (some { block := k1, off := (0 : Nat) : Addr }) (0 : Nat) (0 : Nat) p0.a p0.len h1 fun (p1 : Option Addr) (k2 k3 : Nat) (h2 : Hp) => Q { a := p1, len := k2, cap := k3 : Sl } h2)
theorem e59 (p0 : Sl) (h : Hp) (Q : Sl → Hp → Prop) : fnD a59 Try.prog 59 n59 (cSl) [Value.slice p0.a p0.len p0.cap] h Q = F59 p0 h Q := by kernel_rfl
theorem c59 {p0 : Sl} {h : Hp} {Q : Sl → Hp → Prop} (hk : F59 p0 h Q) : callP Try.prog 59 [Value.slice p0.a p0.len p0.cap] (cSl) h Q :=
  spec_of (prem_of prog_ok dep_ok eqs_ok rfl (by kernel_rfl)) mix_ok ((e59 p0 h Q).mpr hk)
def a60 : Ann := { prom := 0, refs := [], dyn := 0, bcd := fun s => match s with | _ => none, eqs := memL eqL, cdc := cdcs, res := ress, pure := memL [] }
def n60 : An := (.seq (.reg []) (.seq (.reg []) (.seq (.seq (.reg []) (.block (.loop [(3, false, cSl), (9, false, cI .i64)] 2147483240 (.seq (.reg []) (.seq (.cond .leaf .leaf) (.seq (.block (.seq (.reg []) (.seq (.reg []) (.seq (.block (.loop [(3, false, cSl), (6, false, cI .u64)] 33521736 (.seq (.seq (.reg []) (.cond .leaf .leaf)) (.block (.seq (.reg []) (.reg [])))))) (.reg []))))) (.reg []))))))) (.seq (.reg []) .leaf))))
/-- consols/pack.Put -/
def F60 (p0 : Sl) (h : Hp) (Q : Sl → Hp → Prop) : Prop :=
  loopP ({ a := none, len := (0 : Nat), cap := (0 : Nat) : Sl }, (0 : Int)) h fun (J1 : Sl × Int → Hp → Prop) (z1 : Sl × Int) (h1 : Hp) =>
    condP (decide (z1.snd < (↑p0.len : Int)))
      (idxP p0.a p0.len z1.snd fun (a1 : Addr) =>
        loadP (cI IntKind.i64) (a1.add (z1.snd.toNat * (1 : Nat))) h1 fun (n1 : Int) =>
          callP Try.prog (62 : Nat) [Value.int IntKind.i64 n1] (cI IntKind.u64) h1 fun (n2 : Int) (h2 : Hp) =>
            loopP (z1.fst, n2) h2 fun (J2 : Sl × Int → Hp → Prop) (z2 : Sl × Int) (h3 : Hp) =>
              condP (decide (z2.snd ≥ (128 : Int)))
                (allocP (Obj.cells { toList := [Value.int IntKind.u8 (orI IntKind.u8 (IntKind.u8.wrap z2.snd) (128 : Int))] : Array Value } (5 : Nat)) h3 fun (k1 : Nat) (h4 : Hp) =>
                  appendP (cI IntKind.u8) (5 : Nat) (1 : Nat) z2.fst.a z2.fst.len z2.fst.cap (some { block := k1, off := (0 : Nat) : Addr }) (1 : Nat) h4 fun (p1 : Option Addr) (k2 k3 : Nat) (h5 : Hp) =>
                    (0 : Int) ≤ (7 : Int) ∧ J2 ({ a := p1, len := k2, cap := k3 : Sl }, shrI IntKind.u64 z2.snd (7 : Int)) h5)
                (allocP (Obj.cells { toList := [Value.int IntKind.u8 (IntKind.u8.wrap z2.snd)] : Array Value } (5 : Nat)) h3 fun (k4 : Nat) (h6 : Hp) =>
                  appendP (cI IntKind.u8) (5 : Nat) (1 : Nat) z2.fst.a z2.fst.len z2.fst.cap (some { block := k4, off := (0 : Nat) : Addr }) (1 : Nat) h6 fun (p2 : Option Addr) (k5 k6 : Nat) (h7 : Hp) =>
                    J1 ({ a := p2, len := k5, cap := k6 : Sl }, IntKind.i64.wrap (z1.snd + (1 : Int))) h7))
      (Q z1.fst h1)
theorem e60 (p0 : Sl) (h : Hp) (Q : Sl → Hp → Prop) : fnD a60 Try.prog 60 n60 (cSl) [Value.slice p0.a p0.len p0.cap] h Q = F60 p0 h Q := by kernel_rfl
theorem c60 {p0 : Sl} {h : Hp} {Q : Sl → Hp → Prop} (hk : F60 p0 h Q) : callP Try.prog 60 [Value.slice p0.a p0.len p0.cap] (cSl) h Q :=
  spec_of (prem_of prog_ok dep_ok eqs_ok rfl (by kernel_rfl)) mix_ok ((e60 p0 h Q).mpr hk)
def a61 : Ann := { prom := 0, refs := [], dyn := 0, bcd := fun s => match s with | _ => none, eqs := memL eqL, cdc := cdcs, res := ress, pure := memL [] }
def n61 : An := (.seq (.reg []) (.seq (.reg []) (.seq (.seq (.reg []) (.block (.loop [(3, false, cSl), (4, false, cI .i64)] 524248 (.seq (.seq (.reg []) (.cond .leaf .leaf)) (.seq (.block (.reg [])) (.reg [])))))) (.seq (.reg []) .leaf))))
/-- consols/consolsref3.Put -/
def F61 (p0 : Sl) (h : Hp) (Q : Sl → Hp → Prop) : Prop :=
  allocP (Obj.cells { toList := [] : Array Value } (5 : Nat)) h fun (k1 : Nat) (h1 : Hp) =>
    loopP ({ a := some { block := k1, off := (0 : Nat) : Addr }, len := (0 : Nat), cap := (0 : Nat) : Sl }, (0 : Int)) h1 fun (J1 : Sl × Int → Hp → Prop) (z1 : Sl × Int) (h2 : Hp) =>
      condP (decide (z1.snd < (↑p0.len : Int)))
        (idxP p0.a p0.len z1.snd fun (a1 : Addr) =>
          loadP (cI IntKind.i64) (a1.add (z1.snd.toNat * (1 : Nat))) h2 fun (n1 : Int) =>
            callP Try.prog (63 : Nat) [Value.int IntKind.i64 n1] cSl h2 fun (s1 : Sl) (h3 : Hp) =>
              appendP (cI IntKind.u8) (5 : Nat) (1 : Nat) z1.fst.a z1.fst.len z1.fst.cap s1.a s1.len h3 fun (p1 : Option Addr) (k2 k3 : Nat) (h4 : Hp) => J1 ({ a := p1, len := k2, cap := k3 : Sl }, IntKind.i64.wrap (z1.snd + (1 : Int))) h4)
        (Q z1.fst h2)
theorem e61 (p0 : Sl) (h : Hp) (Q : Sl → Hp → Prop) : fnD a61 Try.prog 61 n61 (cSl) [Value.slice p0.a p0.len p0.cap] h Q = F61 p0 h Q := by kernel_rfl
theorem c61 {p0 : Sl} {h : Hp} {Q : Sl → Hp → Prop} (hk : F61 p0 h Q) : callP Try.prog 61 [Value.slice p0.a p0.len p0.cap] (cSl) h Q :=
  spec_of (prem_of prog_ok dep_ok eqs_ok rfl (by kernel_rfl)) mix_ok ((e61 p0 h Q).mpr hk)
def a62 : Ann := { prom := 0, refs := [], dyn := 0, bcd := fun s => match s with | _ => none, eqs := memL eqL, cdc := cdcs, res := ress, pure := memL [] }
def n62 : An := (.seq (.reg []) (.seq (.reg []) .leaf))
/-- consols/pack.turned -/
def F62 (p0 : Int) (h : Hp) (Q : Int → Hp → Prop) : Prop :=
 (0 : Int) ≤ (1 : Int) ∧ (0 : Int) ≤ (63 : Int) ∧ Q (xorI IntKind.u64 (shlI IntKind.u64 (IntKind.u64.wrap p0) (1 : Int)) (IntKind.u64.wrap (shrI IntKind.i64 p0 (63 : Int)))) h
theorem e62 (p0 : Int) (h : Hp) (Q : Int → Hp → Prop) : fnD a62 Try.prog 62 n62 (cI .u64) [Value.int IntKind.i64 p0] h Q = F62 p0 h Q := by kernel_rfl
theorem c62 {p0 : Int} {h : Hp} {Q : Int → Hp → Prop} (hk : F62 p0 h Q) : callP Try.prog 62 [Value.int IntKind.i64 p0] (cI .u64) h Q :=
  spec_of (prem_of prog_ok dep_ok eqs_ok rfl (by kernel_rfl)) mix_ok ((e62 p0 h Q).mpr hk)
def a63 : Ann := { prom := 0, refs := [], dyn := 0, bcd := fun s => match s with | _ => none, eqs := memL eqL, cdc := cdcs, res := ress, pure := memL [] }
def n63 : An := (.seq (.reg []) (.seq (.reg []) (.seq (.reg []) (.seq (.block (.loop [(3, false, cI .u64), (4, false, cSl)] 262040 (.seq (.seq (.reg []) (.cond .leaf .leaf)) (.block (.seq (.reg []) (.reg [])))))) (.seq (.reg []) .leaf)))))
/-- consols/consolsref3.one -/
def F63 (p0 : Int) (h : Hp) (Q : Sl → Hp → Prop) : Prop :=
  callP Try.prog (64 : Nat) [Value.int IntKind.i64 p0] (cI IntKind.u64) h fun (n1 : Int) (h1 : Hp) =>
    loopP (n1, { a := none, len := (0 : Nat), cap := (0 : Nat) : Sl }) h1 fun (J1 : Int × Sl → Hp → Prop) (z1 : Int × Sl) (h2 : Hp) =>
      condP (decide (z1.fst ≥ (128 : Int)))
        ((128 : Int) ≠ (0 : Int) ∧
          allocP (Obj.cells { toList := [Value.int IntKind.u8 (IntKind.u8.wrap (IntKind.u64.wrap (z1.fst.tmod (128 : Int) + (128 : Int))))] : Array Value } (5 : Nat)) h2 fun (k1 : Nat) (h3 : Hp) =>
            appendP (cI IntKind.u8) (5 : Nat) (1 : Nat) z1.snd.a z1.snd.len z1.snd.cap (some { block := k1, off := (0 : Nat) : Addr }) (1 : Nat) h3 fun (p1 : Option Addr) (k2 k3 : Nat) (h4 : Hp) =>
              (128 : Int) ≠ (0 : Int) ∧ J1 (quoI IntKind.u64 z1.fst (128 : Int), { a := p1, len := k2, cap := k3 : Sl }) h4)
        (allocP (Obj.cells { toList := [Value.int IntKind.u8 (IntKind.u8.wrap z1.fst)] : Array Value } (5 : Nat)) h2 fun (k4 : Nat) (h5 : Hp) =>
          appendP (cI IntKind.u8) (5 : Nat) (1 : Nat) z1.snd.a z1.snd.len z1.snd.cap (some { block := k4, off := (0 : Nat) : Addr }) (1 : Nat) h5 fun (p2 : Option Addr) (k5 k6 : Nat) (h6 : Hp) => Q { a := p2, len := k5, cap := k6 : Sl } h6)
theorem e63 (p0 : Int) (h : Hp) (Q : Sl → Hp → Prop) : fnD a63 Try.prog 63 n63 (cSl) [Value.int IntKind.i64 p0] h Q = F63 p0 h Q := by kernel_rfl
theorem c63 {p0 : Int} {h : Hp} {Q : Sl → Hp → Prop} (hk : F63 p0 h Q) : callP Try.prog 63 [Value.int IntKind.i64 p0] (cSl) h Q :=
  spec_of (prem_of prog_ok dep_ok eqs_ok rfl (by kernel_rfl)) mix_ok ((e63 p0 h Q).mpr hk)
def a64 : Ann := { prom := 0, refs := [], dyn := 0, bcd := fun s => match s with | _ => none, eqs := memL eqL, cdc := cdcs, res := ress, pure := memL [] }
def n64 : An := (.seq (.reg []) (.seq (.seq (.reg []) (.cond (.seq (.reg []) .leaf) .leaf)) (.seq (.reg []) .leaf)))
/-- consols/consolsref3.zig -/
def F64 (p0 : Int) (h : Hp) (Q : Int → Hp → Prop) : Prop :=
  condP (decide (p0 < (0 : Int))) (Q (IntKind.u64.wrap (IntKind.u64.wrap ((2 : Int) * IntKind.u64.wrap (IntKind.i64.wrap ((0 : Int) - IntKind.i64.wrap (p0 + (1 : Int))))) + (1 : Int))) h)
    (Q (IntKind.u64.wrap ((2 : Int) * IntKind.u64.wrap p0)) h)
theorem e64 (p0 : Int) (h : Hp) (Q : Int → Hp → Prop) : fnD a64 Try.prog 64 n64 (cI .u64) [Value.int IntKind.i64 p0] h Q = F64 p0 h Q := by kernel_rfl
theorem c64 {p0 : Int} {h : Hp} {Q : Int → Hp → Prop} (hk : F64 p0 h Q) : callP Try.prog 64 [Value.int IntKind.i64 p0] (cI .u64) h Q :=
  spec_of (prem_of prog_ok dep_ok eqs_ok rfl (by kernel_rfl)) mix_ok ((e64 p0 h Q).mpr hk)
end Go.Proofs.Ytplfogbgobkcfaa
