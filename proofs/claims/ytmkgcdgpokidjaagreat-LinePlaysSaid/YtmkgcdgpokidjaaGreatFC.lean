/- What the functions say, each as one statement: made by program (drive.py). -/
import Derived.Test.YtmkgcdgpokidjaaGreatTy
set_option linter.unusedVariables false
set_option maxRecDepth 20000
namespace Go.Proofs.YtmkgcdgpokidjaaGreat
open Go.Eng
def a42 : Ann := { prom := 0, refs := [], dyn := 0, bcd := fun s => match s with | _ => none, eqs := memL eqL, cdc := cdcs, res := ress, pure := memL [49], pan := memL [48, 81] }
def n42 : An := (.seq (.reg []) (.seq (.reg []) (.seq (.seq (.reg []) (.block (.loop [(3, false, cSl), (4, false, cI .i64)] 33554424 (.seq (.seq (.reg []) (.cond .leaf .leaf)) (.seq (.block (.seq (.reg []) (.reg []))) (.reg [])))))) (.seq (.reg []) .leaf))))
/-- consols/consolslaw24.wire -/
def F42 (p0 : Sl) (h : Hp) (Q : Sl → Hp → Prop) : Prop :=
  loopP ({ a := none, len := (0 : Nat), cap := (0 : Nat) : Sl }, (0 : Int)) h fun (J1 : Sl × Int → Hp → Prop) (z1 : Sl × Int) (h1 : Hp) =>
    condP (decide (z1.snd < (↑p0.len : Int)))
      (idxP p0.a p0.len z1.snd fun (a1 : Addr) =>
        loadP cFrame (a1.add (z1.snd.toNat * (8 : Nat))) h1 fun (x1 : Frame) =>
          callP Tryz.prog (72 : Nat)
            [Value.agg
                {
                  toList :=
                    [Value.int IntKind.i64 x1.Seq, Value.int IntKind.i64 x1.Msg_Kind, Value.int IntKind.i64 x1.Msg_F_0, Value.int IntKind.i64 x1.Msg_F_1, Value.int IntKind.i64 x1.Msg_F_2, Value.int IntKind.i64 x1.Msg_F_3,
                      Value.int IntKind.i64 x1.Msg_F_4, Value.int IntKind.i64 x1.Msg_F_5] :
                  Array Value }]
            cSl h1 fun (s1 : Sl) (h2 : Hp) =>
            callP Tryz.prog (71 : Nat) [Value.slice s1.a s1.len s1.cap] (tupC [cSl, cB]) h2 fun (z2 : Sl × Bool) (h3 : Hp) =>
              appendP (cI IntKind.u8) (5 : Nat) (1 : Nat) z1.fst.a z1.fst.len z1.fst.cap z2.fst.a z2.fst.len h3 fun (p1 : Option Addr) (k1 k2 : Nat) (h4 : Hp) =>
                J1 ({ a := p1, len := k1, cap := k2 : Sl }, IntKind.i64.wrap (z1.snd + (1 : Int))) h4)
      (Q z1.fst h1)
theorem e42 (p0 : Sl) (h : Hp) (Q : Sl → Hp → Prop) : fnD a42 Tryz.prog 42 n42 (cSl) [Value.slice p0.a p0.len p0.cap] h Q = F42 p0 h Q := by kernel_rfl
theorem c42 {p0 : Sl} {h : Hp} {Q : Sl → Hp → Prop} (hk : F42 p0 h Q) : callP Tryz.prog 42 [Value.slice p0.a p0.len p0.cap] (cSl) h Q :=
  spec_of (prem_of prog_ok dep_ok eqs_ok rfl (by kernel_rfl)) mix_ok ((e42 p0 h Q).mpr hk)
def a4 : Ann := { prom := 0, refs := [], dyn := 0, bcd := fun s => match s with | _ => none, eqs := memL eqL, cdc := cdcs, res := ress, pure := memL [49], pan := memL [48, 81] }
def n4 : An := (.seq (.reg []) (.seq (.reg []) (.seq (.seq (.reg []) (.cond (.seq (.reg []) .leaf) .leaf)) (.seq (.reg []) .leaf))))
/-- consols/line.New -/
def F4 (p0 : Int) (h : Hp) (Q : Option Addr → Hp → Prop) : Prop :=
  callP Tryz.prog (20 : Nat) [Value.int IntKind.i64 p0] cP h fun (p1 : Option Addr) (h1 : Hp) =>
    condP p1.isNone (Q none h1)
      (callP Tryz.prog (21 : Nat) [] cP h1 fun (p2 : Option Addr) (h2 : Hp) =>
        callP Tryz.prog (22 : Nat) [Value.int IntKind.i64 (256 : Int)] cP h2 fun (p3 : Option Addr) (h3 : Hp) =>
          allocP (Obj.cells { toList := [Value.pointer p2, Value.pointer p1, Value.pointer p3] : Array Value } (58 : Nat)) h3 fun (k1 : Nat) (h4 : Hp) => Q (some { block := k1, off := (0 : Nat) : Addr }) h4)
theorem e4 (p0 : Int) (h : Hp) (Q : Option Addr → Hp → Prop) : fnD a4 Tryz.prog 4 n4 (cP) [Value.int IntKind.i64 p0] h Q = F4 p0 h Q := by kernel_rfl
theorem c4 {p0 : Int} {h : Hp} {Q : Option Addr → Hp → Prop} (hk : F4 p0 h Q) : callP Tryz.prog 4 [Value.int IntKind.i64 p0] (cP) h Q :=
  spec_of (prem_of prog_ok dep_ok eqs_ok rfl (by kernel_rfl)) mix_ok ((e4 p0 h Q).mpr hk)
def a6 : Ann := { prom := 2304, refs := [(59, 8)], dyn := 0, bcd := fun s => match s with | 8 => some (cFrame) | 11 => some (cMsg) | _ => none, eqs := memL eqL, cdc := cdcs, res := ress, pure := memL [49], pan := memL [48, 81] }
def n6 : An := (.seq (.reg []) (.seq (.seq (.reg []) (.cond (.seq (.reg []) .leaf) .leaf)) (.seq (.seq (.reg []) (.block (.loop [(4, false, cSl), (5, false, cB), (24, false, cI .i64)] 73786976294821461936 (.seq (.reg []) (.seq (.cond .leaf .leaf) (.seq (.blockJ [(4, false, cSl), (5, false, cB)] 36893488147352027056 (.seq (.reg []) (.seq (.reg []) (.seq (.seq (.reg []) (.cond .leaf .leaf)) (.seq (.reg [(0, []), (1, []), (2, []), (4, []), (11, []), (3, []), (5, []), (6, []), (7, []), (8, []), (9, []), (10, []), (12, []), (13, []), (14, []), (15, [])]) (.seq (.reg []) (.join [(5, false, cB)] 143552238122434592 (.reg []) (.seq (.reg []) (.cond (.reg []) .leaf))))))))) (.reg []))))))) (.seq (.reg []) .leaf))))
/-- (*consols/line.Line).Bytes -/
def F6 (p0 : Option Addr) (p1 : Sl) (h : Hp) (Q : Sl × Bool → Hp → Prop) : Prop :=
  condP p0.isNone (Q ({ a := none, len := (0 : Nat), cap := (0 : Nat) : Sl }, false) h)
    (nilP p0 fun (a1 : Addr) =>
      loadP cP (a1.add (0 : Nat)) h fun (p1_1 : Option Addr) =>
        callP Tryz.prog (25 : Nat) [Value.pointer p1_1, Value.slice p1.a p1.len p1.cap] cSl h fun (s1 : Sl) (h1 : Hp) =>
          loopP ({ a := none, len := (0 : Nat), cap := (0 : Nat) : Sl }, false, (0 : Int)) h1 fun (J1 : Sl × Bool × Int → Hp → Prop) (z1 : Sl × Bool × Int) (h2 : Hp) =>
            condP (decide (z1.snd.snd < (↑s1.len : Int)))
              (joinP (fun (z2 : Sl × Bool) (h3 : Hp) => J1 (z2.fst, z2.snd, IntKind.i64.wrap (z1.snd.snd + (1 : Int))) h3) fun (J2 : Sl × Bool → Hp → Prop) =>
                idxP s1.a s1.len z1.snd.snd fun (a2 : Addr) =>
                  loadP cSl (a2.add (z1.snd.snd.toNat * (1 : Nat))) h2 fun (s2 : Sl) =>
                    callP Tryz.prog (26 : Nat) [Value.slice s2.a s2.len s2.cap] (tupC [cFrame, cI IntKind.i64]) h2 fun (z3 : Frame × Int) (h4 : Hp) =>
                      condP (z3.snd != (0 : Int)) (J2 (z1.fst, z1.snd.fst) h4)
                        (nilP p0 fun (a3 : Addr) =>
                          loadP cP { block := a3.block, off := a3.off + (1 : Nat) : Addr } h4 fun (p2 : Option Addr) =>
                            callP Tryz.prog (27 : Nat)
                              [Value.pointer p2,
                                Value.agg
                                  {
                                    toList :=
                                      [Value.int IntKind.i64 z3.fst.Seq, Value.int IntKind.i64 z3.fst.Msg_Kind, Value.int IntKind.i64 z3.fst.Msg_F_0, Value.int IntKind.i64 z3.fst.Msg_F_1, Value.int IntKind.i64 z3.fst.Msg_F_2,
                                        Value.int IntKind.i64 z3.fst.Msg_F_3, Value.int IntKind.i64 z3.fst.Msg_F_4, Value.int IntKind.i64 z3.fst.Msg_F_5] :
                                    Array Value }]
                              (tupC [cSl, cMsg, cB, cB]) h4 fun (z4 : Sl × Msg × Bool × Bool) (h5 : Hp) =>
                              callP Tryz.prog (28 : Nat) [Value.pointer p0, Value.slice z4.fst.a z4.fst.len z4.fst.cap] cB h5 fun (t1 : Bool) (h6 : Hp) =>
                                joinP
                                  (fun (t2 : Bool) (h7 : Hp) =>
                                    condP z4.snd.snd.fst
                                      (allocP
                                        (Obj.cells
                                          {
                                            toList :=
                                              [Value.int IntKind.i64 z3.fst.Seq, Value.int IntKind.i64 z4.snd.fst.Kind, Value.int IntKind.i64 z4.snd.fst.F_0, Value.int IntKind.i64 z4.snd.fst.F_1, Value.int IntKind.i64 z4.snd.fst.F_2,
                                                Value.int IntKind.i64 z4.snd.fst.F_3, Value.int IntKind.i64 z4.snd.fst.F_4, Value.int IntKind.i64 z4.snd.fst.F_5] :
                                            Array Value }
                                          (65 : Nat))
                                        h7 fun (k1 : Nat) (h8 : Hp) =>
                                        appendP cFrame (65 : Nat) (64 : Nat) z1.fst.a z1.fst.len z1.fst.cap (some { block := k1, off := (0 : Nat) : Addr }) (1 : Nat) h8 fun (p3 : Option Addr) (k2 k3 : Nat) (h9 : Hp) =>
                                          J2 ({ a := p3, len := k2, cap := k3 : Sl }, t2) h9)
                                      (J2 (z1.fst, t2) h7))
                                  fun (J3 : Bool → Hp → Prop) => condP z1.snd.fst (J3 true h6) (condP z4.snd.snd.snd (J3 true h6) (J3 (!t1) h6))))
              (Q (z1.fst, z1.snd.fst) h2))
theorem e6 (p0 : Option Addr) (p1 : Sl) (h : Hp) (Q : Sl × Bool → Hp → Prop) : fnD a6 Tryz.prog 6 n6 (tupC [cSl, cB]) [Value.pointer p0, Value.slice p1.a p1.len p1.cap] h Q = F6 p0 p1 h Q := by kernel_rfl
theorem c6 {p0 : Option Addr} {p1 : Sl} {h : Hp} {Q : Sl × Bool → Hp → Prop} (hk : F6 p0 p1 h Q) : callP Tryz.prog 6 [Value.pointer p0, Value.slice p1.a p1.len p1.cap] (tupC [cSl, cB]) h Q :=
  spec_of (prem_of prog_ok dep_ok eqs_ok rfl (by kernel_rfl)) mix_ok ((e6 p0 p1 h Q).mpr hk)
def a14 : Ann := { prom := 0, refs := [], dyn := 0, bcd := fun s => match s with | _ => none, eqs := memL eqL, cdc := cdcs, res := ress, pure := memL [49], pan := memL [48, 81] }
def n14 : An := (.seq (.reg []) (.seq (.seq (.reg []) (.cond (.seq (.reg []) .leaf) .leaf)) (.seq (.reg []) (.block (.loop [(3, false, cSl)] 8388412 (.block (.seq (.reg []) (.seq (.seq (.reg []) (.cond (.seq (.reg []) .leaf) .leaf)) (.reg [])))))))))
/-- (*consols/line.Line).Out -/
def F14 (p0 : Option Addr) (h : Hp) (Q : Sl → Hp → Prop) : Prop :=
  condP p0.isNone (Q { a := none, len := (0 : Nat), cap := (0 : Nat) : Sl } h)
    (loopP { a := none, len := (0 : Nat), cap := (0 : Nat) : Sl } h fun (J1 : Sl → Hp → Prop) (s1 : Sl) (h1 : Hp) =>
      nilP p0 fun (a1 : Addr) =>
        loadP cP { block := a1.block, off := a1.off + (2 : Nat) : Addr } h1 fun (p1 : Option Addr) =>
          callP Tryz.prog (37 : Nat) [Value.pointer p1] (tupC [cSl, cB]) h1 fun (z1 : Sl × Bool) (h2 : Hp) =>
            condP (!z1.snd) (Q s1 h2)
              (allocP (Obj.cells { toList := [Value.slice z1.fst.a z1.fst.len z1.fst.cap] : Array Value } (27 : Nat)) h2 fun (k1 : Nat) (h3 : Hp) =>
                appendP cSl (27 : Nat) (24 : Nat) s1.a s1.len s1.cap (some { block := k1, off := (0 : Nat) : Addr }) (1 : Nat) h3 fun (p2 : Option Addr) (k2 k3 : Nat) (h4 : Hp) => J1 { a := p2, len := k2, cap := k3 : Sl } h4))
theorem e14 (p0 : Option Addr) (h : Hp) (Q : Sl → Hp → Prop) : fnD a14 Tryz.prog 14 n14 (cSl) [Value.pointer p0] h Q = F14 p0 h Q := by kernel_rfl
theorem c14 {p0 : Option Addr} {h : Hp} {Q : Sl → Hp → Prop} (hk : F14 p0 h Q) : callP Tryz.prog 14 [Value.pointer p0] (cSl) h Q :=
  spec_of (prem_of prog_ok dep_ok eqs_ok rfl (by kernel_rfl)) mix_ok ((e14 p0 h Q).mpr hk)
def a18 : Ann := { prom := 0, refs := [], dyn := 0, bcd := fun s => match s with | _ => none, eqs := memL eqL, cdc := cdcs, res := ress, pure := memL [49], pan := memL [48, 81] }
def n18 : An := (.seq (.reg []) (.seq (.reg []) .leaf))
/-- (*consols/line.Line).Up -/
def F18 (p0 : Option Addr) (h : Hp) (Q : Bool → Hp → Prop) : Prop :=
  condP (!p0.isNone) (nilP p0 fun (a1 : Addr) => loadP cP { block := a1.block, off := a1.off + (1 : Nat) : Addr } h fun (p1 : Option Addr) => callP Tryz.prog (41 : Nat) [Value.pointer p1] cB h fun (t1 : Bool) (h1 : Hp) => Q t1 h1)
    (Q false h)
theorem e18 (p0 : Option Addr) (h : Hp) (Q : Bool → Hp → Prop) : fnD a18 Tryz.prog 18 n18 (cB) [Value.pointer p0] h Q = F18 p0 h Q := by kernel_rfl
theorem c18 {p0 : Option Addr} {h : Hp} {Q : Bool → Hp → Prop} (hk : F18 p0 h Q) : callP Tryz.prog 18 [Value.pointer p0] (cB) h Q :=
  spec_of (prem_of prog_ok dep_ok eqs_ok rfl (by kernel_rfl)) mix_ok ((e18 p0 h Q).mpr hk)
def a19 : Ann := { prom := 0, refs := [], dyn := 0, bcd := fun s => match s with | _ => none, eqs := memL eqL, cdc := cdcs, res := ress, pure := memL [49], pan := memL [48, 81] }
def n19 : An := (.seq (.reg []) (.seq (.reg []) (.seq (.reg []) (.seq (.reg []) (.seq (.reg []) (.seq (.reg [(0, []), (1, []), (2, []), (3, []), (4, []), (5, []), (6, []), (7, []), (8, []), (9, []), (10, []), (11, []), (12, []), (13, []), (16, []), (14, []), (15, []), (17, []), (18, []), (19, []), (20, []), (21, []), (22, []), (23, []), (24, [])]) .leaf))))))
/-- consols/consolslaw24.known -/
def F19  (h : Hp) (Q : Bool → Hp → Prop) : Prop :=
  callP Tryz.prog (4 : Nat) [Value.int IntKind.i64 (3 : Int)] cP h fun (p1 : Option Addr) (h1 : Hp) =>
    allocP (Obj.cells { toList := [Value.int IntKind.i64 (1 : Int)] : Array Value } (2 : Nat)) h1 fun (k1 : Nat) (h2 : Hp) =>
      callP Tryz.prog (43 : Nat) [Value.int IntKind.i64 (1 : Int), Value.slice (some { block := k1, off := (0 : Nat) : Addr }) (1 : Nat) (1 : Nat)] cMsg h2 fun (x1 : Msg) (h3 : Hp) =>
        allocP
          (Obj.cells
            {
              toList :=
                [Value.int IntKind.i64 (0 : Int), Value.int IntKind.i64 x1.Kind, Value.int IntKind.i64 x1.F_0, Value.int IntKind.i64 x1.F_1, Value.int IntKind.i64 x1.F_2, Value.int IntKind.i64 x1.F_3, Value.int IntKind.i64 x1.F_4,
                  Value.int IntKind.i64 x1.F_5] :
              Array Value }
            (65 : Nat))
          h3 fun (k2 : Nat) (h4 : Hp) =>
          callP Tryz.prog (42 : Nat) [Value.slice (some { block := k2, off := (0 : Nat) : Addr }) (1 : Nat) (1 : Nat)] cSl h4 fun (s1 : Sl) (h5 : Hp) =>
            callP Tryz.prog (6 : Nat) [Value.pointer p1, Value.slice s1.a s1.len s1.cap] (tupC [cSl, cB]) h5 fun (z1 : Sl × Bool) (h6 : Hp) =>
              callP Tryz.prog (14 : Nat) [Value.pointer p1] cSl h6 fun (s2 : Sl) (h7 : Hp) =>
                condP (!z1.snd)
                  (callP Tryz.prog (18 : Nat) [Value.pointer p1] cB h7 fun (t1 : Bool) (h8 : Hp) =>
                    condP t1
                      (condP ((↑s2.len : Int) == (1 : Int))
                        (idxP s2.a s2.len (0 : Int) fun (a1 : Addr) =>
                          loadP cSl (a1.add (0 : Nat)) h8 fun (s3 : Sl) =>
                            strP s3.a s3.len h8 fun (u1 : ByteArray) =>
                              strP s1.a s1.len h8 fun (u2 : ByteArray) => condP (strEq u1 u2) (callP Tryz.prog (4 : Nat) [Value.int IntKind.i64 (0 : Int)] cP h8 fun (p2 : Option Addr) (h9 : Hp) => Q p2.isNone h9) (Q false h8))
                        (Q false h8))
                      (Q false h8))
                  (Q false h7)
theorem e19  (h : Hp) (Q : Bool → Hp → Prop) : fnD a19 Tryz.prog 19 n19 (cB) [] h Q = F19  h Q := by kernel_rfl
theorem c19  {h : Hp} {Q : Bool → Hp → Prop} (hk : F19  h Q) : callP Tryz.prog 19 [] (cB) h Q :=
  spec_of (prem_of prog_ok dep_ok eqs_ok rfl (by kernel_rfl)) mix_ok ((e19  h Q).mpr hk)
def a9 : Ann := { prom := 40, refs := [], dyn := 0, bcd := fun s => match s with | 3 => some (cMsg) | 5 => some (cFrame) | _ => none, eqs := memL eqL, cdc := cdcs, res := ress, pure := memL [49], pan := memL [48, 81] }
def n9 : An := (.seq (.reg []) (.seq (.seq (.reg []) (.cond (.seq (.reg []) .leaf) .leaf)) (.seq (.reg [(0, []), (1, []), (2, []), (4, []), (9, []), (3, []), (5, []), (6, []), (7, []), (8, []), (10, []), (11, [])]) (.seq (.reg []) .leaf))))
/-- (*consols/line.Line).Send -/
def F9 (p0 : Option Addr) (p1 : Msg) (h : Hp) (Q : Bool → Hp → Prop) : Prop :=
  condP p0.isNone (Q false h)
    (nilP p0 fun (a1 : Addr) =>
      loadP cP { block := a1.block, off := a1.off + (1 : Nat) : Addr } h fun (p1_1 : Option Addr) =>
        callP Tryz.prog (33 : Nat)
          [Value.pointer p1_1,
            Value.agg
              { toList := [Value.int IntKind.i64 p1.Kind, Value.int IntKind.i64 p1.F_0, Value.int IntKind.i64 p1.F_1, Value.int IntKind.i64 p1.F_2, Value.int IntKind.i64 p1.F_3, Value.int IntKind.i64 p1.F_4, Value.int IntKind.i64 p1.F_5] :
                Array Value }]
          (tupC [cFrame, cB]) h fun (z1 : Frame × Bool) (h1 : Hp) =>
          condP z1.snd
            (allocP
              (Obj.cells
                {
                  toList :=
                    [Value.int IntKind.i64 z1.fst.Seq, Value.int IntKind.i64 z1.fst.Msg_Kind, Value.int IntKind.i64 z1.fst.Msg_F_0, Value.int IntKind.i64 z1.fst.Msg_F_1, Value.int IntKind.i64 z1.fst.Msg_F_2,
                      Value.int IntKind.i64 z1.fst.Msg_F_3, Value.int IntKind.i64 z1.fst.Msg_F_4, Value.int IntKind.i64 z1.fst.Msg_F_5] :
                  Array Value }
                (65 : Nat))
              h1 fun (k1 : Nat) (h2 : Hp) => callP Tryz.prog (28 : Nat) [Value.pointer p0, Value.slice (some { block := k1, off := (0 : Nat) : Addr }) (1 : Nat) (1 : Nat)] cB h2 fun (t1 : Bool) (h3 : Hp) => Q t1 h3)
            (Q false h1))
theorem e9 (p0 : Option Addr) (p1 : Msg) (h : Hp) (Q : Bool → Hp → Prop) : fnD a9 Tryz.prog 9 n9 (cB) [Value.pointer p0, cMsg.enc p1] h Q = F9 p0 p1 h Q := by kernel_rfl
theorem c9 {p0 : Option Addr} {p1 : Msg} {h : Hp} {Q : Bool → Hp → Prop} (hk : F9 p0 p1 h Q) : callP Tryz.prog 9 [Value.pointer p0, cMsg.enc p1] (cB) h Q :=
  spec_of (prem_of prog_ok dep_ok eqs_ok rfl (by kernel_rfl)) mix_ok ((e9 p0 p1 h Q).mpr hk)
def a11 : Ann := { prom := 0, refs := [], dyn := 0, bcd := fun s => match s with | _ => none, eqs := memL eqL, cdc := cdcs, res := ress, pure := memL [49], pan := memL [48, 81] }
def n11 : An := (.seq (.reg []) (.seq (.reg []) .leaf))
/-- (*consols/line.Line).Cut -/
def F11 (p0 : Option Addr) (h : Hp) (Q : Bool → Hp → Prop) : Prop :=
  condP (!p0.isNone) (nilP p0 fun (a1 : Addr) => loadP cP { block := a1.block, off := a1.off + (1 : Nat) : Addr } h fun (p1 : Option Addr) => callP Tryz.prog (36 : Nat) [Value.pointer p1] cB h fun (t1 : Bool) (h1 : Hp) => Q t1 h1)
    (Q false h)
theorem e11 (p0 : Option Addr) (h : Hp) (Q : Bool → Hp → Prop) : fnD a11 Tryz.prog 11 n11 (cB) [Value.pointer p0] h Q = F11 p0 h Q := by kernel_rfl
theorem c11 {p0 : Option Addr} {h : Hp} {Q : Bool → Hp → Prop} (hk : F11 p0 h Q) : callP Tryz.prog 11 [Value.pointer p0] (cB) h Q :=
  spec_of (prem_of prog_ok dep_ok eqs_ok rfl (by kernel_rfl)) mix_ok ((e11 p0 h Q).mpr hk)
def a28 : Ann := { prom := 128, refs := [], dyn := 0, bcd := fun s => match s with | 7 => some (cFrame) | _ => none, eqs := memL eqL, cdc := cdcs, res := ress, pure := memL [49], pan := memL [48, 81] }
def n28 : An := (.seq (.reg []) (.seq (.reg []) (.seq (.seq (.reg []) (.block (.loop [(5, false, cB), (12, false, cI .i64)] 4398046507936 (.seq (.reg []) (.seq (.cond .leaf .leaf) (.seq (.blockJ [(5, false, cB)] 2199023240096 (.seq (.reg []) (.seq (.reg []) (.join [(32, false, cB)] 8585740288 (.reg []) (.cond (.reg []) .leaf))))) (.reg []))))))) (.seq (.reg []) .leaf))))
/-- (*consols/line.Line).goes -/
def F28 (p0 : Option Addr) (p1 : Sl) (h : Hp) (Q : Bool → Hp → Prop) : Prop :=
  loopP (false, (0 : Int)) h fun (J1 : Bool × Int → Hp → Prop) (z1 : Bool × Int) (h1 : Hp) =>
    condP (decide (z1.snd < (↑p1.len : Int)))
      (joinP (fun (t1 : Bool) (h2 : Hp) => J1 (t1, IntKind.i64.wrap (z1.snd + (1 : Int))) h2) fun (J2 : Bool → Hp → Prop) =>
        idxP p1.a p1.len z1.snd fun (a1 : Addr) =>
          loadP cFrame (a1.add (z1.snd.toNat * (8 : Nat))) h1 fun (x1 : Frame) =>
            callP Tryz.prog (54 : Nat)
              [Value.agg
                  {
                    toList :=
                      [Value.int IntKind.i64 x1.Seq, Value.int IntKind.i64 x1.Msg_Kind, Value.int IntKind.i64 x1.Msg_F_0, Value.int IntKind.i64 x1.Msg_F_1, Value.int IntKind.i64 x1.Msg_F_2, Value.int IntKind.i64 x1.Msg_F_3,
                        Value.int IntKind.i64 x1.Msg_F_4, Value.int IntKind.i64 x1.Msg_F_5] :
                    Array Value }]
              cSl h1 fun (s1 : Sl) (h3 : Hp) =>
              callP Tryz.prog (53 : Nat) [Value.slice s1.a s1.len s1.cap] (tupC [cSl, cB]) h3 fun (z2 : Sl × Bool) (h4 : Hp) =>
                joinP
                  (fun (t2 : Bool) (h5 : Hp) =>
                    condP t2
                      (nilP p0 fun (a2 : Addr) =>
                        loadP cP { block := a2.block, off := a2.off + (1 : Nat) : Addr } h5 fun (p1 : Option Addr) => callP Tryz.prog (36 : Nat) [Value.pointer p1] cB h5 fun (t3 : Bool) (h6 : Hp) => condP t3 (J2 true h6) (J2 z1.fst h6))
                      (J2 z1.fst h5))
                  fun (J3 : Bool → Hp → Prop) =>
                  condP (!z2.snd) (J3 true h4)
                    (nilP p0 fun (a3 : Addr) =>
                      loadP cP { block := a3.block, off := a3.off + (2 : Nat) : Addr } h4 fun (p2 : Option Addr) =>
                        callP Tryz.prog (55 : Nat) [Value.pointer p2, Value.slice z2.fst.a z2.fst.len z2.fst.cap] cB h4 fun (t4 : Bool) (h7 : Hp) => J3 (!t4) h7))
      (Q (!z1.fst) h1)
theorem e28 (p0 : Option Addr) (p1 : Sl) (h : Hp) (Q : Bool → Hp → Prop) : fnD a28 Tryz.prog 28 n28 (cB) [Value.pointer p0, Value.slice p1.a p1.len p1.cap] h Q = F28 p0 p1 h Q := by kernel_rfl
theorem c28 {p0 : Option Addr} {p1 : Sl} {h : Hp} {Q : Bool → Hp → Prop} (hk : F28 p0 p1 h Q) : callP Tryz.prog 28 [Value.pointer p0, Value.slice p1.a p1.len p1.cap] (cB) h Q :=
  spec_of (prem_of prog_ok dep_ok eqs_ok rfl (by kernel_rfl)) mix_ok ((e28 p0 p1 h Q).mpr hk)
def a3 : Ann := { prom := 256, refs := [(41, 8), (45, 8), (50, 8), (69, 8), (76, 8), (92, 8), (96, 8)], dyn := 0, bcd := fun s => match s with | 8 => some (cL24Act) | _ => none, eqs := memL eqL, cdc := cdcs, res := ress, pure := memL [49], pan := memL [48, 81] }
def n3 : An := (.seq (.reg []) (.seq (.seq (.reg []) (.cond (.seq (.reg []) .leaf) .leaf)) (.seq (.reg []) (.seq (.seq (.reg []) (.cond (.seq (.reg []) .leaf) .leaf)) (.seq (.seq (.reg []) (.block (.loop [(7, false, cI .i64)] 2722258935367507707706996859454011506576 (.seq (.join [(34, false, cB)] 34225520640 (.reg []) (.cond .leaf .leaf)) (.seq (.block (.seq (.reg []) (.seq (.seq (.reg []) (.cond (.seq (.reg []) .leaf) .leaf)) (.seq (.reg []) (.seq (.seq (.reg []) (.blockJ [(9, false, cB)] 166153499473114484112835145046720000 (.seq (.reg []) (.cond (.seq (.reg []) (.seq (.reg []) (.reg []))) (.seq (.reg []) (.cond (.reg [(0, []), (1, []), (2, []), (4, []), (5, []), (6, []), (3, []), (7, []), (8, []), (9, [])]) (.seq (.reg []) (.cond (.reg [(0, []), (2, []), (3, []), (4, []), (5, []), (1, [5]), (6, []), (7, []), (8, [])]) (.seq (.reg []) (.cond (.reg []) (.seq (.reg []) (.block (.loop [(9, false, cB), (14, false, cI .i64)] 36893347409930764800 (.seq (.join [(57, false, cB)] 288089638663356416 (.reg []) (.cond .leaf .leaf)) (.seq (.block (.reg [])) (.reg [])))))))))))))))) (.join [(130, false, cB)] 2722092781868034593222883883571610648576 (.reg [(0, []), (1, []), (2, []), (3, []), (5, []), (6, []), (7, []), (8, []), (9, []), (10, []), (11, []), (4, [8, 11]), (12, []), (13, [])]) (.cond (.seq (.reg []) .leaf) .leaf))))))) (.reg [])))))) (.seq (.reg []) .leaf))))))
/-- consols/consolslaw24.LinePlays -/
def F3 (p0 : Int) (p1 : Sl) (h : Hp) (Q : Bool → Hp → Prop) : Prop :=
  condP (decide ((↑p1.len : Int) > (100 : Int))) (Q true h)
    (callP Tryz.prog (4 : Nat) [Value.int IntKind.i64 p0] cP h fun (p1_1 : Option Addr) (h1 : Hp) =>
      callP Tryz.prog (5 : Nat) [Value.int IntKind.i64 p0] cP h1 fun (p2 : Option Addr) (h2 : Hp) =>
        condP (!p1_1.isNone == p2.isNone) (Q false h2)
          (loopP (0 : Int) h2 fun (J1 : Int → Hp → Prop) (n1 : Int) (h3 : Hp) =>
            joinP
              (fun (t1 : Bool) (h4 : Hp) =>
                condP t1
                  (idxP p1.a p1.len n1 fun (a1 : Addr) =>
                    loadP cL24Act (a1.add (n1.toNat * (10 : Nat))) h4 fun (x1 : L24Act) =>
                      condP (decide ((↑x1.B.len : Int) > (400 : Int))) (Q true h4)
                        (joinP
                          (fun (t2 : Bool) (h5 : Hp) =>
                            joinP (fun (t3 : Bool) (h6 : Hp) => condP t3 (Q false h6) (J1 (IntKind.i64.wrap (n1 + (1 : Int))) h6)) fun (J2 : Bool → Hp → Prop) =>
                              condP (!t2) ((True ∧ True ∧ True) ∧ J2 true h5)
                                (nilP p2 fun (a2 : Addr) =>
                                  loadP cP { block := a2.block, off := a2.off + (1 : Nat) : Addr } h5 fun (p3 : Option Addr) =>
                                    nilP p3 fun (a3 : Addr) =>
                                      loadP cB { block := a3.block, off := a3.off + (1 : Nat) : Addr } h5 fun (t4 : Bool) =>
                                        callP Tryz.prog (18 : Nat) [Value.pointer p1_1] cB h5 fun (t5 : Bool) (h7 : Hp) =>
                                          (h7.rds { block := a2.block, off := a2.off + (1 : Nat) : Addr } [Value.pointer p3] ∧ h7.rds { block := a3.block, off := a3.off + (1 : Nat) : Addr } [Value.bool t4] ∧ True) ∧ J2 (!t5 == t4) h7))
                          fun (J3 : Bool → Hp → Prop) =>
                          condP (x1.Kind == (1 : Int))
                            (callP Tryz.prog (6 : Nat) [Value.pointer p1_1, Value.slice x1.B.a x1.B.len x1.B.cap] (tupC [cSl, cB]) h4 fun (z1 : Sl × Bool) (h8 : Hp) =>
                              callP Tryz.prog (7 : Nat) [Value.pointer p2, Value.slice x1.B.a x1.B.len x1.B.cap] (tupC [cSl, cB]) h8 fun (z2 : Sl × Bool) (h9 : Hp) =>
                                callP Tryz.prog (8 : Nat) [Value.slice z1.fst.a z1.fst.len z1.fst.cap, Value.slice z2.fst.a z2.fst.len z2.fst.cap] cB h9 fun (t6 : Bool) (h10 : Hp) => condP t6 (J3 (z1.snd == z2.snd) h10) (J3 false h10))
                            (condP (x1.Kind == (2 : Int))
                              (callP Tryz.prog (9 : Nat)
                                [Value.pointer p1_1,
                                  Value.agg
                                    {
                                      toList :=
                                        [Value.int IntKind.i64 x1.Msg_Kind, Value.int IntKind.i64 x1.Msg_F_0, Value.int IntKind.i64 x1.Msg_F_1, Value.int IntKind.i64 x1.Msg_F_2, Value.int IntKind.i64 x1.Msg_F_3,
                                          Value.int IntKind.i64 x1.Msg_F_4, Value.int IntKind.i64 x1.Msg_F_5] :
                                      Array Value }]
                                cB h4 fun (t7 : Bool) (h11 : Hp) =>
                                callP Tryz.prog (10 : Nat)
                                  [Value.pointer p2,
                                    Value.agg
                                      {
                                        toList :=
                                          [Value.int IntKind.i64 x1.Msg_Kind, Value.int IntKind.i64 x1.Msg_F_0, Value.int IntKind.i64 x1.Msg_F_1, Value.int IntKind.i64 x1.Msg_F_2, Value.int IntKind.i64 x1.Msg_F_3,
                                            Value.int IntKind.i64 x1.Msg_F_4, Value.int IntKind.i64 x1.Msg_F_5] :
                                        Array Value }]
                                  cB h11 fun (t8 : Bool) (h12 : Hp) => J3 (t7 == t8) h12)
                              (condP (x1.Kind == (3 : Int))
                                (nilP p2 fun (a4 : Addr) =>
                                  loadP cP { block := a4.block, off := a4.off + (1 : Nat) : Addr } h4 fun (p4 : Option Addr) =>
                                    callP Tryz.prog (11 : Nat) [Value.pointer p1_1] cB h4 fun (t9 : Bool) (h13 : Hp) =>
                                      (h13.rds { block := a4.block, off := a4.off + (1 : Nat) : Addr } [Value.pointer p4] ∧ True) ∧ callP Tryz.prog (12 : Nat) [Value.pointer p4] cB h13 fun (t10 : Bool) (h14 : Hp) => J3 (t9 == t10) h14)
                                (condP (x1.Kind == (4 : Int))
                                  (callP Tryz.prog (14 : Nat) [Value.pointer p1_1] cSl h4 fun (s1 : Sl) (h15 : Hp) =>
                                    callP Tryz.prog (15 : Nat) [Value.pointer p2] cSl h15 fun (s2 : Sl) (h16 : Hp) =>
                                      callP Tryz.prog (13 : Nat) [Value.slice s1.a s1.len s1.cap, Value.slice s2.a s2.len s2.cap] cB h16 fun (t11 : Bool) (h17 : Hp) => J3 t11 h17)
                                  (loopP (true, (0 : Int)) h4 fun (J4 : Bool × Int → Hp → Prop) (z3 : Bool × Int) (h18 : Hp) =>
                                    joinP
                                      (fun (t12 : Bool) (h19 : Hp) =>
                                        condP t12
                                          (callP Tryz.prog (16 : Nat) [Value.pointer p1_1] cB h19 fun (t13 : Bool) (h20 : Hp) =>
                                            callP Tryz.prog (17 : Nat) [Value.pointer p2] cB h20 fun (t14 : Bool) (h21 : Hp) => J4 (t13 == t14, IntKind.i64.wrap (z3.snd + (1 : Int))) h21)
                                          (J3 z3.fst h19))
                                      fun (J5 : Bool → Hp → Prop) => condP z3.fst (condP (decide (z3.snd < x1.Many)) (J5 (decide (z3.snd < (30 : Int))) h18) (J5 false h18)) (J5 false h18)))))))
                  (condP p2.isNone (callP Tryz.prog (19 : Nat) [] cB h4 fun (t15 : Bool) (h22 : Hp) => Q t15 h22)
                    (callP Tryz.prog (14 : Nat) [Value.pointer p1_1] cSl h4 fun (s3 : Sl) (h23 : Hp) =>
                      callP Tryz.prog (15 : Nat) [Value.pointer p2] cSl h23 fun (s4 : Sl) (h24 : Hp) =>
                        callP Tryz.prog (13 : Nat) [Value.slice s3.a s3.len s3.cap, Value.slice s4.a s4.len s4.cap] cB h24 fun (t16 : Bool) (h25 : Hp) =>
                          condP t16 (callP Tryz.prog (19 : Nat) [] cB h25 fun (t17 : Bool) (h26 : Hp) => Q t17 h26) (Q false h25))))
              fun (J6 : Bool → Hp → Prop) => condP (!p2.isNone) (J6 (decide (n1 < (↑p1.len : Int))) h3) (J6 false h3)))
theorem e3 (p0 : Int) (p1 : Sl) (h : Hp) (Q : Bool → Hp → Prop) : fnD a3 Tryz.prog 3 n3 (cB) [Value.int IntKind.i64 p0, Value.slice p1.a p1.len p1.cap] h Q = F3 p0 p1 h Q := by kernel_rfl
theorem c3 {p0 : Int} {p1 : Sl} {h : Hp} {Q : Bool → Hp → Prop} (hk : F3 p0 p1 h Q) : callP Tryz.prog 3 [Value.int IntKind.i64 p0, Value.slice p1.a p1.len p1.cap] (cB) h Q :=
  spec_of (prem_of prog_ok dep_ok eqs_ok rfl (by kernel_rfl)) mix_ok ((e3 p0 p1 h Q).mpr hk)
def a5 : Ann := { prom := 0, refs := [], dyn := 0, bcd := fun s => match s with | _ => none, eqs := memL eqL, cdc := cdcs, res := ress, pure := memL [49], pan := memL [48, 81] }
def n5 : An := (.seq (.reg []) (.seq (.reg []) (.seq (.seq (.reg []) (.cond (.seq (.reg []) .leaf) .leaf)) (.seq (.reg []) .leaf))))
/-- consols/consolsref24.New -/
def F5 (p0 : Int) (h : Hp) (Q : Option Addr → Hp → Prop) : Prop :=
  callP Tryz.prog (23 : Nat) [Value.int IntKind.i64 p0] cP h fun (p1 : Option Addr) (h1 : Hp) =>
    condP p1.isNone (Q none h1)
      (allocP (Obj.cells { toList := [Value.slice none (0 : Nat) (0 : Nat), Value.int IntKind.i64 (0 : Int)] : Array Value } (61 : Nat)) h1 fun (k1 : Nat) (h2 : Hp) =>
        callP Tryz.prog (24 : Nat) [Value.int IntKind.i64 (256 : Int)] cP h2 fun (p2 : Option Addr) (h3 : Hp) =>
          allocP (Obj.cells { toList := [Value.pointer (some { block := k1, off := (0 : Nat) : Addr }), Value.pointer p1, Value.pointer p2] : Array Value } (43 : Nat)) h3 fun (k2 : Nat) (h4 : Hp) =>
            Q (some { block := k2, off := (0 : Nat) : Addr }) h4)
theorem e5 (p0 : Int) (h : Hp) (Q : Option Addr → Hp → Prop) : fnD a5 Tryz.prog 5 n5 (cP) [Value.int IntKind.i64 p0] h Q = F5 p0 h Q := by kernel_rfl
theorem c5 {p0 : Int} {h : Hp} {Q : Option Addr → Hp → Prop} (hk : F5 p0 h Q) : callP Tryz.prog 5 [Value.int IntKind.i64 p0] (cP) h Q :=
  spec_of (prem_of prog_ok dep_ok eqs_ok rfl (by kernel_rfl)) mix_ok ((e5 p0 h Q).mpr hk)
def a7 : Ann := { prom := 9216, refs := [(59, 10)], dyn := 0, bcd := fun s => match s with | 10 => some (cFrame) | 13 => some (cMsg) | _ => none, eqs := memL eqL, cdc := cdcs, res := ress, pure := memL [49], pan := memL [48, 81] }
def n7 : An := (.seq (.reg []) (.seq (.reg []) (.seq (.reg []) (.seq (.reg []) (.seq (.seq (.reg []) (.block (.loop [(7, false, cSl), (8, false, cB), (9, false, cI .i64)] 36893488147414974336 (.seq (.seq (.reg []) (.cond .leaf .leaf)) (.seq (.blockJ [(7, false, cSl), (8, false, cB)] 36893488147150732672 (.seq (.reg []) (.seq (.seq (.reg []) (.cond .leaf .leaf)) (.seq (.reg [(0, []), (1, []), (2, []), (4, []), (11, []), (3, []), (5, []), (6, []), (7, []), (8, []), (9, []), (10, []), (12, []), (13, []), (14, []), (15, [])]) (.join [(15, false, cB)] 8444249301352448 (.seq (.reg []) (.cond (.reg []) .leaf)) (.join [(8, false, cB)] 135107988821115136 (.reg []) (.seq (.reg []) (.cond (.reg []) .leaf)))))))) (.reg [])))))) (.seq (.reg []) .leaf))))))
/-- (*consols/consolsref24.Line).Bytes -/
def F7 (p0 : Option Addr) (p1 : Sl) (h : Hp) (Q : Sl × Bool → Hp → Prop) : Prop :=
  nilP p0 fun (a1 : Addr) =>
    loadP cP (a1.add (0 : Nat)) h fun (p1_1 : Option Addr) =>
      callP Tryz.prog (29 : Nat) [Value.pointer p1_1, Value.slice p1.a p1.len p1.cap] cSl h fun (s1 : Sl) (h1 : Hp) =>
        loopP ({ a := none, len := (0 : Nat), cap := (0 : Nat) : Sl }, false, (0 : Int)) h1 fun (J1 : Sl × Bool × Int → Hp → Prop) (z1 : Sl × Bool × Int) (h2 : Hp) =>
          condP (decide (z1.snd.snd < (↑s1.len : Int)))
            (joinP (fun (z2 : Sl × Bool) (h3 : Hp) => J1 (z2.fst, z2.snd, IntKind.i64.wrap (z1.snd.snd + (1 : Int))) h3) fun (J2 : Sl × Bool → Hp → Prop) =>
              idxP s1.a s1.len z1.snd.snd fun (a2 : Addr) =>
                loadP cSl (a2.add (z1.snd.snd.toNat * (1 : Nat))) h2 fun (s2 : Sl) =>
                  callP Tryz.prog (30 : Nat) [Value.slice s2.a s2.len s2.cap] (tupC [cFrame, cI IntKind.i64]) h2 fun (z3 : Frame × Int) (h4 : Hp) =>
                    condP (z3.snd != (0 : Int)) (J2 (z1.fst, z1.snd.fst) h4)
                      (nilP p0 fun (a3 : Addr) =>
                        loadP cP { block := a3.block, off := a3.off + (1 : Nat) : Addr } h4 fun (p2 : Option Addr) =>
                          callP Tryz.prog (31 : Nat)
                            [Value.pointer p2,
                              Value.agg
                                {
                                  toList :=
                                    [Value.int IntKind.i64 z3.fst.Seq, Value.int IntKind.i64 z3.fst.Msg_Kind, Value.int IntKind.i64 z3.fst.Msg_F_0, Value.int IntKind.i64 z3.fst.Msg_F_1, Value.int IntKind.i64 z3.fst.Msg_F_2,
                                      Value.int IntKind.i64 z3.fst.Msg_F_3, Value.int IntKind.i64 z3.fst.Msg_F_4, Value.int IntKind.i64 z3.fst.Msg_F_5] :
                                  Array Value }]
                            (tupC [cSl, cMsg, cB, cB]) h4 fun (z4 : Sl × Msg × Bool × Bool) (h5 : Hp) =>
                            joinP
                              (fun (t1 : Bool) (h6 : Hp) =>
                                joinP
                                  (fun (t2 : Bool) (h7 : Hp) =>
                                    condP z4.snd.snd.fst
                                      (allocP
                                        (Obj.cells
                                          {
                                            toList :=
                                              [Value.int IntKind.i64 z3.fst.Seq, Value.int IntKind.i64 z4.snd.fst.Kind, Value.int IntKind.i64 z4.snd.fst.F_0, Value.int IntKind.i64 z4.snd.fst.F_1, Value.int IntKind.i64 z4.snd.fst.F_2,
                                                Value.int IntKind.i64 z4.snd.fst.F_3, Value.int IntKind.i64 z4.snd.fst.F_4, Value.int IntKind.i64 z4.snd.fst.F_5] :
                                            Array Value }
                                          (65 : Nat))
                                        h7 fun (k1 : Nat) (h8 : Hp) =>
                                        appendP cFrame (65 : Nat) (64 : Nat) z1.fst.a z1.fst.len z1.fst.cap (some { block := k1, off := (0 : Nat) : Addr }) (1 : Nat) h8 fun (p3 : Option Addr) (k2 k3 : Nat) (h9 : Hp) =>
                                          J2 ({ a := p3, len := k2, cap := k3 : Sl }, t2) h9)
                                      (J2 (z1.fst, t2) h7))
                                  fun (J3 : Bool → Hp → Prop) => condP z1.snd.fst (J3 true h6) (J3 t1 h6))
                              fun (J4 : Bool → Hp → Prop) => callP Tryz.prog (32 : Nat) [Value.pointer p0, Value.slice z4.fst.a z4.fst.len z4.fst.cap] cB h5 fun (t3 : Bool) (h10 : Hp) => condP (!t3) (J4 true h10) (J4 z4.snd.snd.snd h10)))
            (Q (z1.fst, z1.snd.fst) h2)
theorem e7 (p0 : Option Addr) (p1 : Sl) (h : Hp) (Q : Sl × Bool → Hp → Prop) : fnD a7 Tryz.prog 7 n7 (tupC [cSl, cB]) [Value.pointer p0, Value.slice p1.a p1.len p1.cap] h Q = F7 p0 p1 h Q := by kernel_rfl
theorem c7 {p0 : Option Addr} {p1 : Sl} {h : Hp} {Q : Sl × Bool → Hp → Prop} (hk : F7 p0 p1 h Q) : callP Tryz.prog 7 [Value.pointer p0, Value.slice p1.a p1.len p1.cap] (tupC [cSl, cB]) h Q :=
  spec_of (prem_of prog_ok dep_ok eqs_ok rfl (by kernel_rfl)) mix_ok ((e7 p0 p1 h Q).mpr hk)
def a10 : Ann := { prom := 40, refs := [], dyn := 0, bcd := fun s => match s with | 3 => some (cMsg) | 5 => some (cFrame) | _ => none, eqs := memL eqL, cdc := cdcs, res := ress, pure := memL [49], pan := memL [48, 81] }
def n10 : An := (.seq (.reg []) (.seq (.reg [(0, []), (1, []), (2, []), (4, []), (9, []), (3, []), (5, []), (6, []), (7, []), (8, []), (10, []), (11, [])]) (.seq (.reg []) .leaf)))
/-- (*consols/consolsref24.Line).Send -/
def F10 (p0 : Option Addr) (p1 : Msg) (h : Hp) (Q : Bool → Hp → Prop) : Prop :=
  nilP p0 fun (a1 : Addr) =>
    loadP cP { block := a1.block, off := a1.off + (1 : Nat) : Addr } h fun (p1_1 : Option Addr) =>
      callP Tryz.prog (34 : Nat)
        [Value.pointer p1_1,
          Value.agg
            { toList := [Value.int IntKind.i64 p1.Kind, Value.int IntKind.i64 p1.F_0, Value.int IntKind.i64 p1.F_1, Value.int IntKind.i64 p1.F_2, Value.int IntKind.i64 p1.F_3, Value.int IntKind.i64 p1.F_4, Value.int IntKind.i64 p1.F_5] :
              Array Value }]
        (tupC [cFrame, cB]) h fun (z1 : Frame × Bool) (h1 : Hp) =>
        condP z1.snd
          (callP Tryz.prog (35 : Nat)
            [Value.pointer p0,
              Value.agg
                {
                  toList :=
                    [Value.int IntKind.i64 z1.fst.Seq, Value.int IntKind.i64 z1.fst.Msg_Kind, Value.int IntKind.i64 z1.fst.Msg_F_0, Value.int IntKind.i64 z1.fst.Msg_F_1, Value.int IntKind.i64 z1.fst.Msg_F_2,
                      Value.int IntKind.i64 z1.fst.Msg_F_3, Value.int IntKind.i64 z1.fst.Msg_F_4, Value.int IntKind.i64 z1.fst.Msg_F_5] :
                  Array Value }]
            cB h1 fun (t1 : Bool) (h2 : Hp) => Q t1 h2)
          (Q false h1)
theorem e10 (p0 : Option Addr) (p1 : Msg) (h : Hp) (Q : Bool → Hp → Prop) : fnD a10 Tryz.prog 10 n10 (cB) [Value.pointer p0, cMsg.enc p1] h Q = F10 p0 p1 h Q := by kernel_rfl
theorem c10 {p0 : Option Addr} {p1 : Msg} {h : Hp} {Q : Bool → Hp → Prop} (hk : F10 p0 p1 h Q) : callP Tryz.prog 10 [Value.pointer p0, cMsg.enc p1] (cB) h Q :=
  spec_of (prem_of prog_ok dep_ok eqs_ok rfl (by kernel_rfl)) mix_ok ((e10 p0 p1 h Q).mpr hk)
def a15 : Ann := { prom := 0, refs := [], dyn := 0, bcd := fun s => match s with | _ => none, eqs := memL eqL, cdc := cdcs, res := ress, pure := memL [49], pan := memL [48, 81] }
def n15 : An := (.seq (.reg []) (.seq (.reg []) (.block (.loop [(3, false, cSl)] 2097148 (.block (.seq (.reg []) (.seq (.seq (.reg []) (.cond (.seq (.reg []) .leaf) .leaf)) (.reg []))))))))
/-- (*consols/consolsref24.Line).Out -/
def F15 (p0 : Option Addr) (h : Hp) (Q : Sl → Hp → Prop) : Prop :=
  loopP { a := none, len := (0 : Nat), cap := (0 : Nat) : Sl } h fun (J1 : Sl → Hp → Prop) (s1 : Sl) (h1 : Hp) =>
    nilP p0 fun (a1 : Addr) =>
      loadP cP { block := a1.block, off := a1.off + (2 : Nat) : Addr } h1 fun (p1 : Option Addr) =>
        callP Tryz.prog (38 : Nat) [Value.pointer p1] (tupC [cSl, cB]) h1 fun (z1 : Sl × Bool) (h2 : Hp) =>
          condP (!z1.snd) (Q s1 h2)
            (allocP (Obj.cells { toList := [Value.slice z1.fst.a z1.fst.len z1.fst.cap] : Array Value } (27 : Nat)) h2 fun (k1 : Nat) (h3 : Hp) =>
              appendP cSl (27 : Nat) (24 : Nat) s1.a s1.len s1.cap (some { block := k1, off := (0 : Nat) : Addr }) (1 : Nat) h3 fun (p2 : Option Addr) (k2 k3 : Nat) (h4 : Hp) => J1 { a := p2, len := k2, cap := k3 : Sl } h4)
theorem e15 (p0 : Option Addr) (h : Hp) (Q : Sl → Hp → Prop) : fnD a15 Tryz.prog 15 n15 (cSl) [Value.pointer p0] h Q = F15 p0 h Q := by kernel_rfl
theorem c15 {p0 : Option Addr} {h : Hp} {Q : Sl → Hp → Prop} (hk : F15 p0 h Q) : callP Tryz.prog 15 [Value.pointer p0] (cSl) h Q :=
  spec_of (prem_of prog_ok dep_ok eqs_ok rfl (by kernel_rfl)) mix_ok ((e15 p0 h Q).mpr hk)
def a16 : Ann := { prom := 0, refs := [], dyn := 0, bcd := fun s => match s with | _ => none, eqs := memL eqL, cdc := cdcs, res := ress, pure := memL [49], pan := memL [48, 81] }
def n16 : An := (.seq (.reg []) (.seq (.seq (.reg []) (.cond (.seq (.reg []) .leaf) .leaf)) (.seq (.reg []) (.seq (.reg []) (.seq (.reg []) .leaf)))))
/-- (*consols/line.Line).Tick -/
def F16 (p0 : Option Addr) (h : Hp) (Q : Bool → Hp → Prop) : Prop :=
  condP p0.isNone (Q false h)
    (nilP p0 fun (a1 : Addr) =>
      loadP cP { block := a1.block, off := a1.off + (1 : Nat) : Addr } h fun (p1 : Option Addr) =>
        callP Tryz.prog (39 : Nat) [Value.pointer p1] (tupC [cSl, cB]) h fun (z1 : Sl × Bool) (h1 : Hp) =>
          callP Tryz.prog (28 : Nat) [Value.pointer p0, Value.slice z1.fst.a z1.fst.len z1.fst.cap] cB h1 fun (t1 : Bool) (h2 : Hp) => condP z1.snd (Q true h2) (Q (!t1) h2))
theorem e16 (p0 : Option Addr) (h : Hp) (Q : Bool → Hp → Prop) : fnD a16 Tryz.prog 16 n16 (cB) [Value.pointer p0] h Q = F16 p0 h Q := by kernel_rfl
theorem c16 {p0 : Option Addr} {h : Hp} {Q : Bool → Hp → Prop} (hk : F16 p0 h Q) : callP Tryz.prog 16 [Value.pointer p0] (cB) h Q :=
  spec_of (prem_of prog_ok dep_ok eqs_ok rfl (by kernel_rfl)) mix_ok ((e16 p0 h Q).mpr hk)
def a17 : Ann := { prom := 0, refs := [], dyn := 0, bcd := fun s => match s with | _ => none, eqs := memL eqL, cdc := cdcs, res := ress, pure := memL [49], pan := memL [48, 81] }
def n17 : An := (.seq (.reg []) (.seq (.reg []) (.seq (.reg []) .leaf)))
/-- (*consols/consolsref24.Line).Tick -/
def F17 (p0 : Option Addr) (h : Hp) (Q : Bool → Hp → Prop) : Prop :=
  nilP p0 fun (a1 : Addr) =>
    loadP cP { block := a1.block, off := a1.off + (1 : Nat) : Addr } h fun (p1 : Option Addr) =>
      callP Tryz.prog (40 : Nat) [Value.pointer p1] (tupC [cSl, cB]) h fun (z1 : Sl × Bool) (h1 : Hp) =>
        callP Tryz.prog (32 : Nat) [Value.pointer p0, Value.slice z1.fst.a z1.fst.len z1.fst.cap] cB h1 fun (t1 : Bool) (h2 : Hp) => condP (!t1) (Q true h2) (Q z1.snd h2)
theorem e17 (p0 : Option Addr) (h : Hp) (Q : Bool → Hp → Prop) : fnD a17 Tryz.prog 17 n17 (cB) [Value.pointer p0] h Q = F17 p0 h Q := by kernel_rfl
theorem c17 {p0 : Option Addr} {h : Hp} {Q : Bool → Hp → Prop} (hk : F17 p0 h Q) : callP Tryz.prog 17 [Value.pointer p0] (cB) h Q :=
  spec_of (prem_of prog_ok dep_ok eqs_ok rfl (by kernel_rfl)) mix_ok ((e17 p0 h Q).mpr hk)
def a32 : Ann := { prom := 0, refs := [], dyn := 0, bcd := fun s => match s with | _ => none, eqs := memL eqL, cdc := cdcs, res := ress, pure := memL [49], pan := memL [48, 81] }
def n32 : An := (.seq (.reg []) (.seq (.seq (.reg []) (.block (.loop [(5, false, cI .i64)] 524272 (.seq (.seq (.reg []) (.cond .leaf .leaf)) (.seq (.block (.seq (.reg []) (.cond (.seq (.reg []) .leaf) .leaf))) (.reg [])))))) (.seq (.reg []) .leaf)))
/-- (*consols/consolsref24.Line).all -/
def F32 (p0 : Option Addr) (p1 : Sl) (h : Hp) (Q : Bool → Hp → Prop) : Prop :=
  loopP (0 : Int) h fun (J1 : Int → Hp → Prop) (n1 : Int) (h1 : Hp) =>
    condP (decide (n1 < (↑p1.len : Int)))
      (idxP p1.a p1.len n1 fun (a1 : Addr) =>
        loadP cFrame (a1.add (n1.toNat * (8 : Nat))) h1 fun (x1 : Frame) =>
          callP Tryz.prog (35 : Nat)
            [Value.pointer p0,
              Value.agg
                {
                  toList :=
                    [Value.int IntKind.i64 x1.Seq, Value.int IntKind.i64 x1.Msg_Kind, Value.int IntKind.i64 x1.Msg_F_0, Value.int IntKind.i64 x1.Msg_F_1, Value.int IntKind.i64 x1.Msg_F_2, Value.int IntKind.i64 x1.Msg_F_3,
                      Value.int IntKind.i64 x1.Msg_F_4, Value.int IntKind.i64 x1.Msg_F_5] :
                  Array Value }]
            cB h1 fun (t1 : Bool) (h2 : Hp) => condP (!t1) (Q false h2) (J1 (IntKind.i64.wrap (n1 + (1 : Int))) h2))
      (Q true h1)
theorem e32 (p0 : Option Addr) (p1 : Sl) (h : Hp) (Q : Bool → Hp → Prop) : fnD a32 Tryz.prog 32 n32 (cB) [Value.pointer p0, Value.slice p1.a p1.len p1.cap] h Q = F32 p0 p1 h Q := by kernel_rfl
theorem c32 {p0 : Option Addr} {p1 : Sl} {h : Hp} {Q : Bool → Hp → Prop} (hk : F32 p0 p1 h Q) : callP Tryz.prog 32 [Value.pointer p0, Value.slice p1.a p1.len p1.cap] (cB) h Q :=
  spec_of (prem_of prog_ok dep_ok eqs_ok rfl (by kernel_rfl)) mix_ok ((e32 p0 p1 h Q).mpr hk)
def a35 : Ann := { prom := 8, refs := [], dyn := 0, bcd := fun s => match s with | 3 => some (cFrame) | _ => none, eqs := memL eqL, cdc := cdcs, res := ress, pure := memL [49], pan := memL [48, 81] }
def n35 : An := (.seq (.reg []) (.seq (.reg []) (.seq (.seq (.reg []) (.cond (.seq (.reg []) .leaf) .leaf)) (.seq (.reg []) (.seq (.reg []) .leaf)))))
/-- (*consols/consolsref24.Line).goes -/
def F35 (p0 : Option Addr) (p1 : Frame) (h : Hp) (Q : Bool → Hp → Prop) : Prop :=
  callP Tryz.prog (72 : Nat)
    [Value.agg
        {
          toList :=
            [Value.int IntKind.i64 p1.Seq, Value.int IntKind.i64 p1.Msg_Kind, Value.int IntKind.i64 p1.Msg_F_0, Value.int IntKind.i64 p1.Msg_F_1, Value.int IntKind.i64 p1.Msg_F_2, Value.int IntKind.i64 p1.Msg_F_3,
              Value.int IntKind.i64 p1.Msg_F_4, Value.int IntKind.i64 p1.Msg_F_5] :
          Array Value }]
    cSl h fun (s1 : Sl) (h1 : Hp) =>
    callP Tryz.prog (71 : Nat) [Value.slice s1.a s1.len s1.cap] (tupC [cSl, cB]) h1 fun (z1 : Sl × Bool) (h2 : Hp) =>
      nilP p0 fun (a1 : Addr) =>
        loadP cP { block := a1.block, off := a1.off + (2 : Nat) : Addr } h2 fun (p1 : Option Addr) =>
          callP Tryz.prog (73 : Nat) [Value.pointer p1, Value.slice z1.fst.a z1.fst.len z1.fst.cap] cB h2 fun (t1 : Bool) (h3 : Hp) =>
            condP t1 (Q true h3)
              (nilP p0 fun (a2 : Addr) => loadP cP { block := a2.block, off := a2.off + (1 : Nat) : Addr } h3 fun (p2 : Option Addr) => callP Tryz.prog (12 : Nat) [Value.pointer p2] cB h3 fun (t2 : Bool) (h4 : Hp) => Q false h4)
theorem e35 (p0 : Option Addr) (p1 : Frame) (h : Hp) (Q : Bool → Hp → Prop) : fnD a35 Tryz.prog 35 n35 (cB) [Value.pointer p0, cFrame.enc p1] h Q = F35 p0 p1 h Q := by kernel_rfl
theorem c35 {p0 : Option Addr} {p1 : Frame} {h : Hp} {Q : Bool → Hp → Prop} (hk : F35 p0 p1 h Q) : callP Tryz.prog 35 [Value.pointer p0, cFrame.enc p1] (cB) h Q :=
  spec_of (prem_of prog_ok dep_ok eqs_ok rfl (by kernel_rfl)) mix_ok ((e35 p0 p1 h Q).mpr hk)
end Go.Proofs.YtmkgcdgpokidjaaGreat
