/- What the functions say, each as one statement: made by program (drive.py). -/
import Derived.Test.YtmkgcdgpokidjaaTy
set_option linter.unusedVariables false
set_option maxRecDepth 20000
namespace Go.Proofs.Ytmkgcdgpokidjaa
open Go.Eng
def a109 : Ann := { prom := 0, refs := [], dyn := 0, bcd := fun s => match s with | _ => none, eqs := memL eqL, cdc := cdcs, res := ress, pure := memL [97], pan := memL [122, 137] }
def n109 : An := (.seq (.reg []) (.seq (.reg []) (.seq (.seq (.reg []) (.block (.loop [(3, false, cSl), (4, false, cI .i64)] 33554424 (.seq (.seq (.reg []) (.cond .leaf .leaf)) (.seq (.block (.seq (.reg []) (.reg []))) (.reg [])))))) (.seq (.reg []) .leaf))))
/-- consols/consolslaw24.wire -/
def F109 (p0 : Sl) (h : Hp) (Q : Sl → Hp → Prop) : Prop :=
  loopP ({ a := none, len := (0 : Nat), cap := (0 : Nat) : Sl }, (0 : Int)) h fun (J1 : Sl × Int → Hp → Prop) (z1 : Sl × Int) (h1 : Hp) =>
    condP (decide (z1.snd < (↑p0.len : Int)))
      (idxP p0.a p0.len z1.snd fun (a1 : Addr) =>
        loadP cFrame (a1.add (z1.snd.toNat * (8 : Nat))) h1 fun (x1 : Frame) =>
          callP Try.prog (90 : Nat)
            [Value.agg
                {
                  toList :=
                    [Value.int IntKind.i64 x1.Seq, Value.int IntKind.i64 x1.Msg_Kind, Value.int IntKind.i64 x1.Msg_F_0, Value.int IntKind.i64 x1.Msg_F_1, Value.int IntKind.i64 x1.Msg_F_2, Value.int IntKind.i64 x1.Msg_F_3,
                      Value.int IntKind.i64 x1.Msg_F_4, Value.int IntKind.i64 x1.Msg_F_5] :
                  Array Value }]
            cSl h1 fun (s1 : Sl) (h2 : Hp) =>
            callP Try.prog (71 : Nat) [Value.slice s1.a s1.len s1.cap] (tupC [cSl, cB]) h2 fun (z2 : Sl × Bool) (h3 : Hp) =>
              appendP (cI IntKind.u8) (5 : Nat) (1 : Nat) z1.fst.a z1.fst.len z1.fst.cap z2.fst.a z2.fst.len h3 fun (p1 : Option Addr) (k1 k2 : Nat) (h4 : Hp) =>
                J1 ({ a := p1, len := k1, cap := k2 : Sl }, IntKind.i64.wrap (z1.snd + (1 : Int))) h4)
      (Q z1.fst h1)
theorem e109 (p0 : Sl) (h : Hp) (Q : Sl → Hp → Prop) : fnD a109 Try.prog 109 n109 (cSl) [Value.slice p0.a p0.len p0.cap] h Q = F109 p0 h Q := by kernel_rfl
theorem c109 {p0 : Sl} {h : Hp} {Q : Sl → Hp → Prop} (hk : F109 p0 h Q) : callP Try.prog 109 [Value.slice p0.a p0.len p0.cap] (cSl) h Q :=
  spec_of (prem_of prog_ok dep_ok eqs_ok rfl (by kernel_rfl)) mix_ok ((e109 p0 h Q).mpr hk)
def a110 : Ann := { prom := 0, refs := [], dyn := 0, bcd := fun s => match s with | _ => none, eqs := memL eqL, cdc := cdcs, res := ress, pure := memL [97], pan := memL [122, 137] }
def n110 : An := (.seq (.reg []) (.seq (.reg []) (.seq (.seq (.reg []) (.cond (.seq (.reg []) .leaf) .leaf)) (.seq (.reg []) .leaf))))
/-- consols/line.New -/
def F110 (p0 : Int) (h : Hp) (Q : Option Addr → Hp → Prop) : Prop :=
  callP Try.prog (82 : Nat) [Value.int IntKind.i64 p0] cP h fun (p1 : Option Addr) (h1 : Hp) =>
    condP p1.isNone (Q none h1)
      (callP Try.prog (75 : Nat) [] cP h1 fun (p2 : Option Addr) (h2 : Hp) =>
        callP Try.prog (42 : Nat) [Value.int IntKind.i64 (256 : Int)] cP h2 fun (p3 : Option Addr) (h3 : Hp) =>
          allocP (Obj.cells { toList := [Value.pointer p2, Value.pointer p1, Value.pointer p3] : Array Value } (169 : Nat)) h3 fun (k1 : Nat) (h4 : Hp) => Q (some { block := k1, off := (0 : Nat) : Addr }) h4)
theorem e110 (p0 : Int) (h : Hp) (Q : Option Addr → Hp → Prop) : fnD a110 Try.prog 110 n110 (cP) [Value.int IntKind.i64 p0] h Q = F110 p0 h Q := by kernel_rfl
theorem c110 {p0 : Int} {h : Hp} {Q : Option Addr → Hp → Prop} (hk : F110 p0 h Q) : callP Try.prog 110 [Value.int IntKind.i64 p0] (cP) h Q :=
  spec_of (prem_of prog_ok dep_ok eqs_ok rfl (by kernel_rfl)) mix_ok ((e110 p0 h Q).mpr hk)
def a111 : Ann := { prom := 2304, refs := [(59, 8)], dyn := 0, bcd := fun s => match s with | 8 => some (cFrame) | 11 => some (cMsg) | _ => none, eqs := memL eqL, cdc := cdcs, res := ress, pure := memL [97], pan := memL [122, 137] }
def n111 : An := (.seq (.reg []) (.seq (.seq (.reg []) (.cond (.seq (.reg []) .leaf) .leaf)) (.seq (.seq (.reg []) (.block (.loop [(4, false, cSl), (5, false, cB), (24, false, cI .i64)] 73786976294821461936 (.seq (.reg []) (.seq (.cond .leaf .leaf) (.seq (.blockJ [(4, false, cSl), (5, false, cB)] 36893488147352027056 (.seq (.reg []) (.seq (.reg []) (.seq (.seq (.reg []) (.cond .leaf .leaf)) (.seq (.reg [(0, []), (1, []), (2, []), (4, []), (11, []), (3, []), (5, []), (6, []), (7, []), (8, []), (9, []), (10, []), (12, []), (13, []), (14, []), (15, [])]) (.seq (.reg []) (.join [(5, false, cB)] 143552238122434592 (.reg []) (.seq (.reg []) (.cond (.reg []) .leaf))))))))) (.reg []))))))) (.seq (.reg []) .leaf))))
/-- (*consols/line.Line).Bytes -/
def F111 (p0 : Option Addr) (p1 : Sl) (h : Hp) (Q : Sl × Bool → Hp → Prop) : Prop :=
  condP p0.isNone (Q ({ a := none, len := (0 : Nat), cap := (0 : Nat) : Sl }, false) h)
    (nilP p0 fun (a1 : Addr) =>
      loadP cP (a1.add (0 : Nat)) h fun (p1_1 : Option Addr) =>
        callP Try.prog (77 : Nat) [Value.pointer p1_1, Value.slice p1.a p1.len p1.cap] cSl h fun (s1 : Sl) (h1 : Hp) =>
          loopP ({ a := none, len := (0 : Nat), cap := (0 : Nat) : Sl }, false, (0 : Int)) h1 fun (J1 : Sl × Bool × Int → Hp → Prop) (z1 : Sl × Bool × Int) (h2 : Hp) =>
            condP (decide (z1.snd.snd < (↑s1.len : Int)))
              (joinP (fun (z2 : Sl × Bool) (h3 : Hp) => J1 (z2.fst, z2.snd, IntKind.i64.wrap (z1.snd.snd + (1 : Int))) h3) fun (J2 : Sl × Bool → Hp → Prop) =>
                idxP s1.a s1.len z1.snd.snd fun (a2 : Addr) =>
                  loadP cSl (a2.add (z1.snd.snd.toNat * (1 : Nat))) h2 fun (s2 : Sl) =>
                    callP Try.prog (94 : Nat) [Value.slice s2.a s2.len s2.cap] (tupC [cFrame, cI IntKind.i64]) h2 fun (z3 : Frame × Int) (h4 : Hp) =>
                      condP (z3.snd != (0 : Int)) (J2 (z1.fst, z1.snd.fst) h4)
                        (nilP p0 fun (a3 : Addr) =>
                          loadP cP { block := a3.block, off := a3.off + (1 : Nat) : Addr } h4 fun (p2 : Option Addr) =>
                            callP Try.prog (83 : Nat)
                              [Value.pointer p2,
                                Value.agg
                                  {
                                    toList :=
                                      [Value.int IntKind.i64 z3.fst.Seq, Value.int IntKind.i64 z3.fst.Msg_Kind, Value.int IntKind.i64 z3.fst.Msg_F_0, Value.int IntKind.i64 z3.fst.Msg_F_1, Value.int IntKind.i64 z3.fst.Msg_F_2,
                                        Value.int IntKind.i64 z3.fst.Msg_F_3, Value.int IntKind.i64 z3.fst.Msg_F_4, Value.int IntKind.i64 z3.fst.Msg_F_5] :
                                    Array Value }]
                              (tupC [cSl, cMsg, cB, cB]) h4 fun (z4 : Sl × Msg × Bool × Bool) (h5 : Hp) =>
                              callP Try.prog (141 : Nat) [Value.pointer p0, Value.slice z4.fst.a z4.fst.len z4.fst.cap] cB h5 fun (t1 : Bool) (h6 : Hp) =>
                                joinP
                                  (fun (t2 : Bool) (h7 : Hp) =>
                                    condP z4.snd.snd.fst
                                      (allocP
                                        (Obj.cells
                                          {
                                            toList :=
                                              [Value.int IntKind.i64 z3.fst.Seq, Value.int IntKind.i64 z4.snd.fst.Kind, Value.int IntKind.i64 z4.snd.fst.F_0, Value.int IntKind.i64 z4.snd.fst.F_1, Value.int IntKind.i64 z4.snd.fst.F_2,
                                                Value.int IntKind.i64 z4.snd.fst.F_3, Value.int IntKind.i64 z4.snd.fst.F_4, Value.int IntKind.i64 z4.snd.fst.F_5] :
                                            Array Value }
                                          (48 : Nat))
                                        h7 fun (k1 : Nat) (h8 : Hp) =>
                                        appendP cFrame (48 : Nat) (64 : Nat) z1.fst.a z1.fst.len z1.fst.cap (some { block := k1, off := (0 : Nat) : Addr }) (1 : Nat) h8 fun (p3 : Option Addr) (k2 k3 : Nat) (h9 : Hp) =>
                                          J2 ({ a := p3, len := k2, cap := k3 : Sl }, t2) h9)
                                      (J2 (z1.fst, t2) h7))
                                  fun (J3 : Bool → Hp → Prop) => condP z1.snd.fst (J3 true h6) (condP z4.snd.snd.snd (J3 true h6) (J3 (!t1) h6))))
              (Q (z1.fst, z1.snd.fst) h2))
theorem e111 (p0 : Option Addr) (p1 : Sl) (h : Hp) (Q : Sl × Bool → Hp → Prop) : fnD a111 Try.prog 111 n111 (tupC [cSl, cB]) [Value.pointer p0, Value.slice p1.a p1.len p1.cap] h Q = F111 p0 p1 h Q := by kernel_rfl
theorem c111 {p0 : Option Addr} {p1 : Sl} {h : Hp} {Q : Sl × Bool → Hp → Prop} (hk : F111 p0 p1 h Q) : callP Try.prog 111 [Value.pointer p0, Value.slice p1.a p1.len p1.cap] (tupC [cSl, cB]) h Q :=
  spec_of (prem_of prog_ok dep_ok eqs_ok rfl (by kernel_rfl)) mix_ok ((e111 p0 p1 h Q).mpr hk)
def a112 : Ann := { prom := 0, refs := [], dyn := 0, bcd := fun s => match s with | _ => none, eqs := memL eqL, cdc := cdcs, res := ress, pure := memL [97], pan := memL [122, 137] }
def n112 : An := (.seq (.reg []) (.seq (.seq (.reg []) (.cond (.seq (.reg []) .leaf) .leaf)) (.seq (.reg []) (.block (.loop [(3, false, cSl)] 8388412 (.block (.seq (.reg []) (.seq (.seq (.reg []) (.cond (.seq (.reg []) .leaf) .leaf)) (.reg [])))))))))
/-- (*consols/line.Line).Out -/
def F112 (p0 : Option Addr) (h : Hp) (Q : Sl → Hp → Prop) : Prop :=
  condP p0.isNone (Q { a := none, len := (0 : Nat), cap := (0 : Nat) : Sl } h)
    (loopP { a := none, len := (0 : Nat), cap := (0 : Nat) : Sl } h fun (J1 : Sl → Hp → Prop) (s1 : Sl) (h1 : Hp) =>
      nilP p0 fun (a1 : Addr) =>
        loadP cP { block := a1.block, off := a1.off + (2 : Nat) : Addr } h1 fun (p1 : Option Addr) =>
          callP Try.prog (45 : Nat) [Value.pointer p1] (tupC [cSl, cB]) h1 fun (z1 : Sl × Bool) (h2 : Hp) =>
            condP (!z1.snd) (Q s1 h2)
              (allocP (Obj.cells { toList := [Value.slice z1.fst.a z1.fst.len z1.fst.cap] : Array Value } (25 : Nat)) h2 fun (k1 : Nat) (h3 : Hp) =>
                appendP cSl (25 : Nat) (24 : Nat) s1.a s1.len s1.cap (some { block := k1, off := (0 : Nat) : Addr }) (1 : Nat) h3 fun (p2 : Option Addr) (k2 k3 : Nat) (h4 : Hp) => J1 { a := p2, len := k2, cap := k3 : Sl } h4))
theorem e112 (p0 : Option Addr) (h : Hp) (Q : Sl → Hp → Prop) : fnD a112 Try.prog 112 n112 (cSl) [Value.pointer p0] h Q = F112 p0 h Q := by kernel_rfl
theorem c112 {p0 : Option Addr} {h : Hp} {Q : Sl → Hp → Prop} (hk : F112 p0 h Q) : callP Try.prog 112 [Value.pointer p0] (cSl) h Q :=
  spec_of (prem_of prog_ok dep_ok eqs_ok rfl (by kernel_rfl)) mix_ok ((e112 p0 h Q).mpr hk)
def a113 : Ann := { prom := 0, refs := [], dyn := 0, bcd := fun s => match s with | _ => none, eqs := memL eqL, cdc := cdcs, res := ress, pure := memL [97], pan := memL [122, 137] }
def n113 : An := (.seq (.reg []) (.seq (.reg []) .leaf))
/-- (*consols/line.Line).Up -/
def F113 (p0 : Option Addr) (h : Hp) (Q : Bool → Hp → Prop) : Prop :=
  condP (!p0.isNone) (nilP p0 fun (a1 : Addr) => loadP cP { block := a1.block, off := a1.off + (1 : Nat) : Addr } h fun (p1 : Option Addr) => callP Try.prog (88 : Nat) [Value.pointer p1] cB h fun (t1 : Bool) (h1 : Hp) => Q t1 h1)
    (Q false h)
theorem e113 (p0 : Option Addr) (h : Hp) (Q : Bool → Hp → Prop) : fnD a113 Try.prog 113 n113 (cB) [Value.pointer p0] h Q = F113 p0 h Q := by kernel_rfl
theorem c113 {p0 : Option Addr} {h : Hp} {Q : Bool → Hp → Prop} (hk : F113 p0 h Q) : callP Try.prog 113 [Value.pointer p0] (cB) h Q :=
  spec_of (prem_of prog_ok dep_ok eqs_ok rfl (by kernel_rfl)) mix_ok ((e113 p0 h Q).mpr hk)
def a114 : Ann := { prom := 0, refs := [], dyn := 0, bcd := fun s => match s with | _ => none, eqs := memL eqL, cdc := cdcs, res := ress, pure := memL [97], pan := memL [122, 137] }
def n114 : An := (.seq (.reg []) (.seq (.reg []) (.seq (.reg []) (.seq (.reg []) (.seq (.reg []) (.seq (.reg [(0, []), (1, []), (2, []), (3, []), (4, []), (5, []), (6, []), (7, []), (8, []), (9, []), (10, []), (11, []), (12, []), (13, []), (16, []), (14, []), (15, []), (17, []), (18, []), (19, []), (20, []), (21, []), (22, []), (23, []), (24, [])]) .leaf))))))
/-- consols/consolslaw24.known -/
def F114  (h : Hp) (Q : Bool → Hp → Prop) : Prop :=
  callP Try.prog (110 : Nat) [Value.int IntKind.i64 (3 : Int)] cP h fun (p1 : Option Addr) (h1 : Hp) =>
    allocP (Obj.cells { toList := [Value.int IntKind.i64 (1 : Int)] : Array Value } (2 : Nat)) h1 fun (k1 : Nat) (h2 : Hp) =>
      callP Try.prog (86 : Nat) [Value.int IntKind.i64 (1 : Int), Value.slice (some { block := k1, off := (0 : Nat) : Addr }) (1 : Nat) (1 : Nat)] cMsg h2 fun (x1 : Msg) (h3 : Hp) =>
        allocP
          (Obj.cells
            {
              toList :=
                [Value.int IntKind.i64 (0 : Int), Value.int IntKind.i64 x1.Kind, Value.int IntKind.i64 x1.F_0, Value.int IntKind.i64 x1.F_1, Value.int IntKind.i64 x1.F_2, Value.int IntKind.i64 x1.F_3, Value.int IntKind.i64 x1.F_4,
                  Value.int IntKind.i64 x1.F_5] :
              Array Value }
            (48 : Nat))
          h3 fun (k2 : Nat) (h4 : Hp) =>
          callP Try.prog (109 : Nat) [Value.slice (some { block := k2, off := (0 : Nat) : Addr }) (1 : Nat) (1 : Nat)] cSl h4 fun (s1 : Sl) (h5 : Hp) =>
            callP Try.prog (111 : Nat) [Value.pointer p1, Value.slice s1.a s1.len s1.cap] (tupC [cSl, cB]) h5 fun (z1 : Sl × Bool) (h6 : Hp) =>
              callP Try.prog (112 : Nat) [Value.pointer p1] cSl h6 fun (s2 : Sl) (h7 : Hp) =>
                condP (!z1.snd)
                  (callP Try.prog (113 : Nat) [Value.pointer p1] cB h7 fun (t1 : Bool) (h8 : Hp) =>
                    condP t1
                      (condP ((↑s2.len : Int) == (1 : Int))
                        (idxP s2.a s2.len (0 : Int) fun (a1 : Addr) =>
                          loadP cSl (a1.add (0 : Nat)) h8 fun (s3 : Sl) =>
                            strP s3.a s3.len h8 fun (u1 : ByteArray) =>
                              strP s1.a s1.len h8 fun (u2 : ByteArray) => condP (strEq u1 u2) (callP Try.prog (110 : Nat) [Value.int IntKind.i64 (0 : Int)] cP h8 fun (p2 : Option Addr) (h9 : Hp) => Q p2.isNone h9) (Q false h8))
                        (Q false h8))
                      (Q false h8))
                  (Q false h7)
theorem e114  (h : Hp) (Q : Bool → Hp → Prop) : fnD a114 Try.prog 114 n114 (cB) [] h Q = F114  h Q := by kernel_rfl
theorem c114  {h : Hp} {Q : Bool → Hp → Prop} (hk : F114  h Q) : callP Try.prog 114 [] (cB) h Q :=
  spec_of (prem_of prog_ok dep_ok eqs_ok rfl (by kernel_rfl)) mix_ok ((e114  h Q).mpr hk)
def a115 : Ann := { prom := 40, refs := [], dyn := 0, bcd := fun s => match s with | 3 => some (cMsg) | 5 => some (cFrame) | _ => none, eqs := memL eqL, cdc := cdcs, res := ress, pure := memL [97], pan := memL [122, 137] }
def n115 : An := (.seq (.reg []) (.seq (.seq (.reg []) (.cond (.seq (.reg []) .leaf) .leaf)) (.seq (.reg [(0, []), (1, []), (2, []), (4, []), (9, []), (3, []), (5, []), (6, []), (7, []), (8, []), (10, []), (11, [])]) (.seq (.reg []) .leaf))))
/-- (*consols/line.Line).Send -/
def F115 (p0 : Option Addr) (p1 : Msg) (h : Hp) (Q : Bool → Hp → Prop) : Prop :=
  condP p0.isNone (Q false h)
    (nilP p0 fun (a1 : Addr) =>
      loadP cP { block := a1.block, off := a1.off + (1 : Nat) : Addr } h fun (p1_1 : Option Addr) =>
        callP Try.prog (102 : Nat)
          [Value.pointer p1_1,
            Value.agg
              { toList := [Value.int IntKind.i64 p1.Kind, Value.int IntKind.i64 p1.F_0, Value.int IntKind.i64 p1.F_1, Value.int IntKind.i64 p1.F_2, Value.int IntKind.i64 p1.F_3, Value.int IntKind.i64 p1.F_4, Value.int IntKind.i64 p1.F_5] :
                Array Value }]
          (tupC [cFrame, cB]) h fun (z1 : Frame × Bool) (h1 : Hp) =>
          condP z1.snd
            (allocP
              (Obj.cells
                {
                  toList :=
                    [Value.int IntKind.i64 z1.fst.Seq, Value.int IntKind.i64 z1.fst.Msg_Kind, Value.int IntKind.i64 z1.fst.Msg_F_0, Value.int IntKind.i64 z1.fst.Msg_F_1, Value.int IntKind.i64 z1.fst.Msg_F_2,
                      Value.int IntKind.i64 z1.fst.Msg_F_3, Value.int IntKind.i64 z1.fst.Msg_F_4, Value.int IntKind.i64 z1.fst.Msg_F_5] :
                  Array Value }
                (48 : Nat))
              h1 fun (k1 : Nat) (h2 : Hp) => callP Try.prog (141 : Nat) [Value.pointer p0, Value.slice (some { block := k1, off := (0 : Nat) : Addr }) (1 : Nat) (1 : Nat)] cB h2 fun (t1 : Bool) (h3 : Hp) => Q t1 h3)
            (Q false h1))
theorem e115 (p0 : Option Addr) (p1 : Msg) (h : Hp) (Q : Bool → Hp → Prop) : fnD a115 Try.prog 115 n115 (cB) [Value.pointer p0, cMsg.enc p1] h Q = F115 p0 p1 h Q := by kernel_rfl
theorem c115 {p0 : Option Addr} {p1 : Msg} {h : Hp} {Q : Bool → Hp → Prop} (hk : F115 p0 p1 h Q) : callP Try.prog 115 [Value.pointer p0, cMsg.enc p1] (cB) h Q :=
  spec_of (prem_of prog_ok dep_ok eqs_ok rfl (by kernel_rfl)) mix_ok ((e115 p0 p1 h Q).mpr hk)
def a116 : Ann := { prom := 0, refs := [], dyn := 0, bcd := fun s => match s with | _ => none, eqs := memL eqL, cdc := cdcs, res := ress, pure := memL [97], pan := memL [122, 137] }
def n116 : An := (.seq (.reg []) (.seq (.reg []) .leaf))
/-- (*consols/line.Line).Cut -/
def F116 (p0 : Option Addr) (h : Hp) (Q : Bool → Hp → Prop) : Prop :=
  condP (!p0.isNone) (nilP p0 fun (a1 : Addr) => loadP cP { block := a1.block, off := a1.off + (1 : Nat) : Addr } h fun (p1 : Option Addr) => callP Try.prog (103 : Nat) [Value.pointer p1] cB h fun (t1 : Bool) (h1 : Hp) => Q t1 h1)
    (Q false h)
theorem e116 (p0 : Option Addr) (h : Hp) (Q : Bool → Hp → Prop) : fnD a116 Try.prog 116 n116 (cB) [Value.pointer p0] h Q = F116 p0 h Q := by kernel_rfl
theorem c116 {p0 : Option Addr} {h : Hp} {Q : Bool → Hp → Prop} (hk : F116 p0 h Q) : callP Try.prog 116 [Value.pointer p0] (cB) h Q :=
  spec_of (prem_of prog_ok dep_ok eqs_ok rfl (by kernel_rfl)) mix_ok ((e116 p0 h Q).mpr hk)
def a141 : Ann := { prom := 128, refs := [], dyn := 0, bcd := fun s => match s with | 7 => some (cFrame) | _ => none, eqs := memL eqL, cdc := cdcs, res := ress, pure := memL [97], pan := memL [122, 137] }
def n141 : An := (.seq (.reg []) (.seq (.reg []) (.seq (.seq (.reg []) (.block (.loop [(5, false, cB), (12, false, cI .i64)] 4398046507936 (.seq (.reg []) (.seq (.cond .leaf .leaf) (.seq (.blockJ [(5, false, cB)] 2199023240096 (.seq (.reg []) (.seq (.reg []) (.join [(32, false, cB)] 8585740288 (.reg []) (.cond (.reg []) .leaf))))) (.reg []))))))) (.seq (.reg []) .leaf))))
/-- (*consols/line.Line).goes -/
def F141 (p0 : Option Addr) (p1 : Sl) (h : Hp) (Q : Bool → Hp → Prop) : Prop :=
  loopP (false, (0 : Int)) h fun (J1 : Bool × Int → Hp → Prop) (z1 : Bool × Int) (h1 : Hp) =>
    condP (decide (z1.snd < (↑p1.len : Int)))
      (joinP (fun (t1 : Bool) (h2 : Hp) => J1 (t1, IntKind.i64.wrap (z1.snd + (1 : Int))) h2) fun (J2 : Bool → Hp → Prop) =>
        idxP p1.a p1.len z1.snd fun (a1 : Addr) =>
          loadP cFrame (a1.add (z1.snd.toNat * (8 : Nat))) h1 fun (x1 : Frame) =>
            callP Try.prog (89 : Nat)
              [Value.agg
                  {
                    toList :=
                      [Value.int IntKind.i64 x1.Seq, Value.int IntKind.i64 x1.Msg_Kind, Value.int IntKind.i64 x1.Msg_F_0, Value.int IntKind.i64 x1.Msg_F_1, Value.int IntKind.i64 x1.Msg_F_2, Value.int IntKind.i64 x1.Msg_F_3,
                        Value.int IntKind.i64 x1.Msg_F_4, Value.int IntKind.i64 x1.Msg_F_5] :
                    Array Value }]
              cSl h1 fun (s1 : Sl) (h3 : Hp) =>
              callP Try.prog (70 : Nat) [Value.slice s1.a s1.len s1.cap] (tupC [cSl, cB]) h3 fun (z2 : Sl × Bool) (h4 : Hp) =>
                joinP
                  (fun (t2 : Bool) (h5 : Hp) =>
                    condP t2
                      (nilP p0 fun (a2 : Addr) =>
                        loadP cP { block := a2.block, off := a2.off + (1 : Nat) : Addr } h5 fun (p1 : Option Addr) => callP Try.prog (103 : Nat) [Value.pointer p1] cB h5 fun (t3 : Bool) (h6 : Hp) => condP t3 (J2 true h6) (J2 z1.fst h6))
                      (J2 z1.fst h5))
                  fun (J3 : Bool → Hp → Prop) =>
                  condP (!z2.snd) (J3 true h4)
                    (nilP p0 fun (a3 : Addr) =>
                      loadP cP { block := a3.block, off := a3.off + (2 : Nat) : Addr } h4 fun (p2 : Option Addr) =>
                        callP Try.prog (43 : Nat) [Value.pointer p2, Value.slice z2.fst.a z2.fst.len z2.fst.cap] cB h4 fun (t4 : Bool) (h7 : Hp) => J3 (!t4) h7))
      (Q (!z1.fst) h1)
theorem e141 (p0 : Option Addr) (p1 : Sl) (h : Hp) (Q : Bool → Hp → Prop) : fnD a141 Try.prog 141 n141 (cB) [Value.pointer p0, Value.slice p1.a p1.len p1.cap] h Q = F141 p0 p1 h Q := by kernel_rfl
theorem c141 {p0 : Option Addr} {p1 : Sl} {h : Hp} {Q : Bool → Hp → Prop} (hk : F141 p0 p1 h Q) : callP Try.prog 141 [Value.pointer p0, Value.slice p1.a p1.len p1.cap] (cB) h Q :=
  spec_of (prem_of prog_ok dep_ok eqs_ok rfl (by kernel_rfl)) mix_ok ((e141 p0 p1 h Q).mpr hk)
def a39 : Ann := { prom := 0, refs := [], dyn := 0, bcd := fun s => match s with | _ => none, eqs := memL eqL, cdc := cdcs, res := ress, pure := memL [97], pan := memL [122, 137] }
def n39 : An := (.seq (.reg []) (.seq (.join [(25, false, cB)] 66846720 (.reg []) (.cond (.seq (.reg []) .leaf) .leaf)) (.seq (.reg []) (.seq (.reg []) (.seq (.reg []) (.seq (.reg []) (.seq (.reg []) (.seq (.seq (.reg []) (.block (.loop [(10, false, cSl), (11, false, cSl), (12, false, cI .i64)] 4722366474073552256000 (.seq (.seq (.reg []) (.cond .leaf .leaf)) (.seq (.block (.seq (.reg []) (.seq (.reg []) (.seq (.reg []) (.reg []))))) (.reg [])))))) (.seq (.reg []) (.seq (.reg []) (.seq (.reg []) .leaf)))))))))))
/-- consols/consolslaw24.LineParts -/
def F39 (p0 : Sl) (p1 : Sl) (h : Hp) (Q : Bool → Hp → Prop) : Prop :=
  joinP
    (fun (t1 : Bool) (h1 : Hp) =>
      condP t1 (Q true h1)
        (allocP (Obj.cells { toList := [Value.int IntKind.i64 (1 : Int)] : Array Value } (2 : Nat)) h1 fun (k1 : Nat) (h2 : Hp) =>
          callP Try.prog (86 : Nat) [Value.int IntKind.i64 (1 : Int), Value.slice (some { block := k1, off := (0 : Nat) : Addr }) (1 : Nat) (1 : Nat)] cMsg h2 fun (x1 : Msg) (h3 : Hp) =>
            allocP
              (Obj.cells
                {
                  toList :=
                    [Value.int IntKind.i64 (0 : Int), Value.int IntKind.i64 x1.Kind, Value.int IntKind.i64 x1.F_0, Value.int IntKind.i64 x1.F_1, Value.int IntKind.i64 x1.F_2, Value.int IntKind.i64 x1.F_3, Value.int IntKind.i64 x1.F_4,
                      Value.int IntKind.i64 x1.F_5] :
                  Array Value }
                (48 : Nat))
              h3 fun (k2 : Nat) (h4 : Hp) =>
              callP Try.prog (109 : Nat) [Value.slice (some { block := k2, off := (0 : Nat) : Addr }) (1 : Nat) (1 : Nat)] cSl h4 fun (s1 : Sl) (h5 : Hp) =>
                callP Try.prog (109 : Nat) [Value.slice p0.a p0.len p0.cap] cSl h5 fun (s2 : Sl) (h6 : Hp) =>
                  appendP (cI IntKind.u8) (5 : Nat) (1 : Nat) s1.a s1.len s1.cap s2.a s2.len h6 fun (p1_1 : Option Addr) (k3 k4 : Nat) (h7 : Hp) =>
                    callP Try.prog (110 : Nat) [Value.int IntKind.i64 (5 : Int)] cP h7 fun (p2 : Option Addr) (h8 : Hp) =>
                      callP Try.prog (110 : Nat) [Value.int IntKind.i64 (5 : Int)] cP h8 fun (p3 : Option Addr) (h9 : Hp) =>
                        callP Try.prog (111 : Nat) [Value.pointer p2, Value.slice p1_1 k3 k4] (tupC [cSl, cB]) h9 fun (z1 : Sl × Bool) (h10 : Hp) =>
                          loopP ({ a := none, len := (0 : Nat), cap := (0 : Nat) : Sl }, { a := p1_1, len := k3, cap := k4 : Sl }, (0 : Int)) h10 fun (J1 : Sl × Sl × Int → Hp → Prop) (z2 : Sl × Sl × Int) (h11 : Hp) =>
                            condP (decide (z2.snd.snd < (↑p1.len : Int)))
                              (idxP p1.a p1.len z2.snd.snd fun (a1 : Addr) =>
                                loadP (cI IntKind.i64) (a1.add (z2.snd.snd.toNat * (1 : Nat))) h11 fun (n1 : Int) =>
                                  IntKind.i64.wrap ((↑z2.snd.fst.len : Int) + (1 : Int)) ≠ (0 : Int) ∧
                                    cutP z2.snd.fst.len z2.snd.fst.cap none (some ((andI IntKind.i64 n1 (65535 : Int)).tmod (IntKind.i64.wrap ((↑z2.snd.fst.len : Int) + (1 : Int))))) fun (k5 k6 : Nat) =>
                                      callP Try.prog (111 : Nat) [Value.pointer p3, Value.slice (cutA z2.snd.fst.a k5 z2.snd.fst.cap (1 : Nat)) (k6 - k5) (z2.snd.fst.cap - k5)] (tupC [cSl, cB]) h11 fun (z3 : Sl × Bool) (h12 : Hp) =>
                                        appendP cFrame (48 : Nat) (64 : Nat) z2.fst.a z2.fst.len z2.fst.cap z3.fst.a z3.fst.len h12 fun (p4 : Option Addr) (k7 k8 : Nat) (h13 : Hp) =>
                                          cutP z2.snd.fst.len z2.snd.fst.cap (some ((andI IntKind.i64 n1 (65535 : Int)).tmod (IntKind.i64.wrap ((↑z2.snd.fst.len : Int) + (1 : Int))))) none fun (k9 k10 : Nat) =>
                                            J1 ({ a := p4, len := k7, cap := k8 : Sl }, { a := cutA z2.snd.fst.a k9 z2.snd.fst.cap (1 : Nat), len := k10 - k9, cap := z2.snd.fst.cap - k9 : Sl }, IntKind.i64.wrap (z2.snd.snd + (1 : Int)))
                                              h13)
                              (callP Try.prog (111 : Nat) [Value.pointer p3, Value.slice z2.snd.fst.a z2.snd.fst.len z2.snd.fst.cap] (tupC [cSl, cB]) h11 fun (z4 : Sl × Bool) (h14 : Hp) =>
                                appendP cFrame (48 : Nat) (64 : Nat) z2.fst.a z2.fst.len z2.fst.cap z4.fst.a z4.fst.len h14 fun (p5 : Option Addr) (k11 k12 : Nat) (h15 : Hp) =>
                                  callP Try.prog (53 : Nat) [Value.slice z1.fst.a z1.fst.len z1.fst.cap, Value.slice p5 k11 k12] cB h15 fun (t2 : Bool) (h16 : Hp) =>
                                    condP t2
                                      (callP Try.prog (112 : Nat) [Value.pointer p2] cSl h16 fun (s3 : Sl) (h17 : Hp) =>
                                        callP Try.prog (112 : Nat) [Value.pointer p3] cSl h17 fun (s4 : Sl) (h18 : Hp) =>
                                          callP Try.prog (76 : Nat) [Value.slice s3.a s3.len s3.cap, Value.slice s4.a s4.len s4.cap] cB h18 fun (t3 : Bool) (h19 : Hp) =>
                                            condP t3
                                              (callP Try.prog (113 : Nat) [Value.pointer p2] cB h19 fun (t4 : Bool) (h20 : Hp) =>
                                                callP Try.prog (113 : Nat) [Value.pointer p3] cB h20 fun (t5 : Bool) (h21 : Hp) => condP (t4 == t5) (callP Try.prog (114 : Nat) [] cB h21 fun (t6 : Bool) (h22 : Hp) => Q t6 h22) (Q false h21))
                                              (Q false h19))
                                      (Q false h16))))
    fun (J2 : Bool → Hp → Prop) => condP (decide ((↑p0.len : Int) > (20 : Int))) (J2 true h) (J2 (decide ((↑p1.len : Int) > (30 : Int))) h)
theorem e39 (p0 : Sl) (p1 : Sl) (h : Hp) (Q : Bool → Hp → Prop) : fnD a39 Try.prog 39 n39 (cB) [Value.slice p0.a p0.len p0.cap, Value.slice p1.a p1.len p1.cap] h Q = F39 p0 p1 h Q := by kernel_rfl
theorem c39 {p0 : Sl} {p1 : Sl} {h : Hp} {Q : Bool → Hp → Prop} (hk : F39 p0 p1 h Q) : callP Try.prog 39 [Value.slice p0.a p0.len p0.cap, Value.slice p1.a p1.len p1.cap] (cB) h Q :=
  spec_of (prem_of prog_ok dep_ok eqs_ok rfl (by kernel_rfl)) mix_ok ((e39 p0 p1 h Q).mpr hk)
def a40 : Ann := { prom := 0, refs := [], dyn := 0, bcd := fun s => match s with | _ => none, eqs := memL eqL, cdc := cdcs, res := ress, pure := memL [97], pan := memL [122, 137] }
def n40 : An := (.seq (.reg []) (.seq (.join [(19, false, cB)] 1048064 (.reg []) (.cond (.seq (.reg []) .leaf) .leaf)) (.seq (.seq (.reg []) (.block (.loop [(5, false, cI .i64)] 2146435120 (.seq (.seq (.reg []) (.cond .leaf .leaf)) (.seq (.block (.seq (.reg []) (.cond (.seq (.reg []) .leaf) .leaf))) (.reg [])))))) (.seq (.reg []) (.seq (.reg []) (.seq (.reg []) (.seq (.reg [(0, []), (1, []), (2, []), (3, []), (4, []), (5, []), (6, []), (7, []), (8, []), (9, []), (10, []), (11, []), (12, []), (13, []), (14, []), (15, []), (16, []), (17, []), (18, []), (19, []), (20, []), (21, []), (22, [20]), (23, []), (24, []), (25, []), (26, []), (27, []), (28, []), (29, []), (30, [])]) .leaf)))))))
/-- consols/consolslaw24.LineNoise -/
def F40 (p0 : Sl) (p1 : Int) (h : Hp) (Q : Bool → Hp → Prop) : Prop :=
  joinP
    (fun (t1 : Bool) (h1 : Hp) =>
      condP t1 (Q true h1)
        (loopP (0 : Int) h1 fun (J1 : Int → Hp → Prop) (n1 : Int) (h2 : Hp) =>
          condP (decide (n1 < (↑p0.len : Int)))
            (idxP p0.a p0.len n1 fun (a1 : Addr) => loadP (cI IntKind.u8) (a1.add (n1.toNat * (1 : Nat))) h2 fun (n2 : Int) => condP (n2 == (197 : Int)) (Q true h2) (J1 (IntKind.i64.wrap (n1 + (1 : Int))) h2))
            (callP Try.prog (110 : Nat) [Value.int IntKind.i64 (5 : Int)] cP h2 fun (p1_1 : Option Addr) (h3 : Hp) =>
              allocP (Obj.cells { toList := [] : Array Value } (5 : Nat)) h3 fun (k1 : Nat) (h4 : Hp) =>
                appendP (cI IntKind.u8) (5 : Nat) (1 : Nat) (some { block := k1, off := (0 : Nat) : Addr }) (0 : Nat) (0 : Nat) p0.a p0.len h4 fun (p2 : Option Addr) (k2 k3 : Nat) (h5 : Hp) =>
                  allocP (Obj.cells { toList := [Value.int IntKind.i64 (1 : Int)] : Array Value } (2 : Nat)) h5 fun (k4 : Nat) (h6 : Hp) =>
                    callP Try.prog (86 : Nat) [Value.int IntKind.i64 (1 : Int), Value.slice (some { block := k4, off := (0 : Nat) : Addr }) (1 : Nat) (1 : Nat)] cMsg h6 fun (x1 : Msg) (h7 : Hp) =>
                      allocP
                        (Obj.cells
                          {
                            toList :=
                              [Value.int IntKind.i64 (0 : Int), Value.int IntKind.i64 x1.Kind, Value.int IntKind.i64 x1.F_0, Value.int IntKind.i64 x1.F_1, Value.int IntKind.i64 x1.F_2, Value.int IntKind.i64 x1.F_3,
                                Value.int IntKind.i64 x1.F_4, Value.int IntKind.i64 x1.F_5] :
                            Array Value }
                          (48 : Nat))
                        h7 fun (k5 : Nat) (h8 : Hp) =>
                        callP Try.prog (109 : Nat) [Value.slice (some { block := k5, off := (0 : Nat) : Addr }) (1 : Nat) (1 : Nat)] cSl h8 fun (s1 : Sl) (h9 : Hp) =>
                          appendP (cI IntKind.u8) (5 : Nat) (1 : Nat) p2 k2 k3 s1.a s1.len h9 fun (p3 : Option Addr) (k6 k7 : Nat) (h10 : Hp) =>
                            callP Try.prog (111 : Nat) [Value.pointer p1_1, Value.slice p3 k6 k7] (tupC [cSl, cB]) h10 fun (z1 : Sl × Bool) (h11 : Hp) =>
                              allocP (Obj.cells { toList := [] : Array Value } (5 : Nat)) h11 fun (k8 : Nat) (h12 : Hp) =>
                                appendP (cI IntKind.u8) (5 : Nat) (1 : Nat) (some { block := k8, off := (0 : Nat) : Addr }) (0 : Nat) (0 : Nat) p0.a p0.len h12 fun (p4 : Option Addr) (k9 k10 : Nat) (h13 : Hp) =>
                                  allocP (Obj.cells { toList := [Value.int IntKind.i64 (4 : Int)] : Array Value } (2 : Nat)) h13 fun (k11 : Nat) (h14 : Hp) =>
                                    callP Try.prog (86 : Nat) [Value.int IntKind.i64 (12 : Int), Value.slice (some { block := k11, off := (0 : Nat) : Addr }) (1 : Nat) (1 : Nat)] cMsg h14 fun (x2 : Msg) (h15 : Hp) =>
                                      allocP
                                        (Obj.cells
                                          {
                                            toList :=
                                              [Value.int IntKind.i64 p1, Value.int IntKind.i64 x2.Kind, Value.int IntKind.i64 x2.F_0, Value.int IntKind.i64 x2.F_1, Value.int IntKind.i64 x2.F_2, Value.int IntKind.i64 x2.F_3,
                                                Value.int IntKind.i64 x2.F_4, Value.int IntKind.i64 x2.F_5] :
                                            Array Value }
                                          (48 : Nat))
                                        h15 fun (k12 : Nat) (h16 : Hp) =>
                                        callP Try.prog (109 : Nat) [Value.slice (some { block := k12, off := (0 : Nat) : Addr }) (1 : Nat) (1 : Nat)] cSl h16 fun (s2 : Sl) (h17 : Hp) =>
                                          appendP (cI IntKind.u8) (5 : Nat) (1 : Nat) p4 k9 k10 s2.a s2.len h17 fun (p5 : Option Addr) (k13 k14 : Nat) (h18 : Hp) =>
                                            callP Try.prog (111 : Nat) [Value.pointer p1_1, Value.slice p5 k13 k14] (tupC [cSl, cB]) h18 fun (z2 : Sl × Bool) (h19 : Hp) =>
                                              callP Try.prog (113 : Nat) [Value.pointer p1_1] cB h19 fun (t2 : Bool) (h20 : Hp) =>
                                                condP t2
                                                  (condP (!z2.snd)
                                                    (condP (((↑z2.fst.len : Int) == (1 : Int)) == (p1 == (1 : Int)))
                                                      (condP (p1 != (1 : Int)) ((True ∧ True) ∧ callP Try.prog (114 : Nat) [] cB h20 fun (t3 : Bool) (h21 : Hp) => Q t3 h21)
                                                        (idxP z2.fst.a z2.fst.len (0 : Int) fun (a2 : Addr) =>
                                                          loadP cFrame (a2.add (0 : Nat)) h20 fun (x3 : Frame) =>
                                                            allocP (Obj.cells { toList := [Value.int IntKind.i64 (4 : Int)] : Array Value } (2 : Nat)) h20 fun (k15 : Nat) (h22 : Hp) =>
                                                              callP Try.prog (86 : Nat) [Value.int IntKind.i64 (12 : Int), Value.slice (some { block := k15, off := (0 : Nat) : Addr }) (1 : Nat) (1 : Nat)] cMsg h22
                                                                fun (x4 : Msg) (h23 : Hp) =>
                                                                (h23.rds (a2.add (0 : Nat))
                                                                      [Value.int IntKind.i64 x3.Seq, Value.int IntKind.i64 x3.Msg_Kind, Value.int IntKind.i64 x3.Msg_F_0, Value.int IntKind.i64 x3.Msg_F_1, Value.int IntKind.i64 x3.Msg_F_2,
                                                                        Value.int IntKind.i64 x3.Msg_F_3, Value.int IntKind.i64 x3.Msg_F_4, Value.int IntKind.i64 x3.Msg_F_5] ∧
                                                                    True) ∧
                                                                  condP
                                                                    (x3.Seq == (1 : Int) &&
                                                                      (x3.Msg_Kind == x4.Kind &&
                                                                        (x3.Msg_F_0 == x4.F_0 && (x3.Msg_F_1 == x4.F_1 && (x3.Msg_F_2 == x4.F_2 && (x3.Msg_F_3 == x4.F_3 && (x3.Msg_F_4 == x4.F_4 && (x3.Msg_F_5 == x4.F_5 && true))))))))
                                                                    (callP Try.prog (114 : Nat) [] cB h23 fun (t4 : Bool) (h24 : Hp) => Q t4 h24) (Q false h23)))
                                                      ((True ∧ True) ∧ Q false h20))
                                                    ((True ∧ True) ∧ Q false h20))
                                                  ((True ∧ True) ∧ Q false h20))))
    fun (J2 : Bool → Hp → Prop) => condP (decide ((↑p0.len : Int) > (100 : Int))) (J2 true h) (condP (decide (p1 < (1 : Int))) (J2 true h) (J2 (decide (p1 > (9 : Int))) h))
theorem e40 (p0 : Sl) (p1 : Int) (h : Hp) (Q : Bool → Hp → Prop) : fnD a40 Try.prog 40 n40 (cB) [Value.slice p0.a p0.len p0.cap, Value.int IntKind.i64 p1] h Q = F40 p0 p1 h Q := by kernel_rfl
theorem c40 {p0 : Sl} {p1 : Int} {h : Hp} {Q : Bool → Hp → Prop} (hk : F40 p0 p1 h Q) : callP Try.prog 40 [Value.slice p0.a p0.len p0.cap, Value.int IntKind.i64 p1] (cB) h Q :=
  spec_of (prem_of prog_ok dep_ok eqs_ok rfl (by kernel_rfl)) mix_ok ((e40 p0 p1 h Q).mpr hk)
def a41 : Ann := { prom := 0, refs := [], dyn := 0, bcd := fun s => match s with | _ => none, eqs := memL eqL, cdc := cdcs, res := ress, pure := memL [97], pan := memL [122, 137] }
def n41 : An := (.seq (.reg []) (.seq (.join [(12, false, cB)] 8064 (.reg []) (.cond (.seq (.reg []) .leaf) .leaf)) (.seq (.reg []) (.seq (.reg []) (.seq (.reg []) (.seq (.seq (.reg []) (.block (.loop [(5, false, cI .i64)] 35184369991732 (.seq (.join [(27, false, cB)] 266338304 (.reg []) (.cond .leaf .leaf)) (.seq (.block (.seq (.reg []) (.join [(44, false, cB)] 35150012350464 (.reg []) (.cond (.seq (.reg []) .leaf) .leaf)))) (.reg [])))))) (.seq (.reg []) (.seq (.seq (.reg []) (.cond (.seq (.reg []) .leaf) .leaf)) (.seq (.reg []) (.seq (.reg []) (.seq (.reg []) .leaf)))))))))))
/-- consols/consolslaw24.LineFull -/
def F41 (p0 : Int) (h : Hp) (Q : Bool → Hp → Prop) : Prop :=
  joinP
    (fun (t1 : Bool) (h1 : Hp) =>
      condP t1 (Q true h1)
        (callP Try.prog (110 : Nat) [Value.int IntKind.i64 (5 : Int)] cP h1 fun (p1 : Option Addr) (h2 : Hp) =>
          allocP (Obj.cells { toList := [Value.int IntKind.i64 (1 : Int)] : Array Value } (2 : Nat)) h2 fun (k1 : Nat) (h3 : Hp) =>
            callP Try.prog (86 : Nat) [Value.int IntKind.i64 (1 : Int), Value.slice (some { block := k1, off := (0 : Nat) : Addr }) (1 : Nat) (1 : Nat)] cMsg h3 fun (x1 : Msg) (h4 : Hp) =>
              allocP
                (Obj.cells
                  {
                    toList :=
                      [Value.int IntKind.i64 (0 : Int), Value.int IntKind.i64 x1.Kind, Value.int IntKind.i64 x1.F_0, Value.int IntKind.i64 x1.F_1, Value.int IntKind.i64 x1.F_2, Value.int IntKind.i64 x1.F_3, Value.int IntKind.i64 x1.F_4,
                        Value.int IntKind.i64 x1.F_5] :
                    Array Value }
                  (48 : Nat))
                h4 fun (k2 : Nat) (h5 : Hp) =>
                callP Try.prog (109 : Nat) [Value.slice (some { block := k2, off := (0 : Nat) : Addr }) (1 : Nat) (1 : Nat)] cSl h5 fun (s1 : Sl) (h6 : Hp) =>
                  callP Try.prog (111 : Nat) [Value.pointer p1, Value.slice s1.a s1.len s1.cap] (tupC [cSl, cB]) h6 fun (z1 : Sl × Bool) (h7 : Hp) =>
                    loopP (0 : Int) h7 fun (J1 : Int → Hp → Prop) (n1 : Int) (h8 : Hp) =>
                      joinP
                        (fun (t2 : Bool) (h9 : Hp) =>
                          condP t2
                            (allocP (Obj.cells { toList := [Value.int IntKind.i64 n1] : Array Value } (2 : Nat)) h9 fun (k3 : Nat) (h10 : Hp) =>
                              callP Try.prog (86 : Nat) [Value.int IntKind.i64 (27 : Int), Value.slice (some { block := k3, off := (0 : Nat) : Addr }) (1 : Nat) (1 : Nat)] cMsg h10 fun (x2 : Msg) (h11 : Hp) =>
                                callP Try.prog (115 : Nat)
                                  [Value.pointer p1,
                                    Value.agg
                                      {
                                        toList :=
                                          [Value.int IntKind.i64 x2.Kind, Value.int IntKind.i64 x2.F_0, Value.int IntKind.i64 x2.F_1, Value.int IntKind.i64 x2.F_2, Value.int IntKind.i64 x2.F_3, Value.int IntKind.i64 x2.F_4,
                                            Value.int IntKind.i64 x2.F_5] :
                                        Array Value }]
                                  cB h11 fun (t3 : Bool) (h12 : Hp) =>
                                  joinP (fun (t4 : Bool) (h13 : Hp) => condP t4 (Q false h13) (J1 (IntKind.i64.wrap (n1 + (1 : Int))) h13)) fun (J2 : Bool → Hp → Prop) =>
                                    condP (!t3 == decide (n1 < (255 : Int))) (J2 true h12) (callP Try.prog (113 : Nat) [Value.pointer p1] cB h12 fun (t5 : Bool) (h14 : Hp) => J2 (!t5 == t3) h14))
                            (callP Try.prog (112 : Nat) [Value.pointer p1] cSl h9 fun (s2 : Sl) (h15 : Hp) =>
                              condP ((↑s2.len : Int) != IntKind.i64.wrap (minI p0 (255 : Int) + (1 : Int))) (Q false h15)
                                (callP Try.prog (116 : Nat) [Value.pointer p1] cB h15 fun (t6 : Bool) (h16 : Hp) =>
                                  allocP (Obj.cells { toList := [Value.int IntKind.i64 (IntKind.i64.wrap (p0 + (1 : Int)))] : Array Value } (2 : Nat)) h16 fun (k4 : Nat) (h17 : Hp) =>
                                    callP Try.prog (86 : Nat) [Value.int IntKind.i64 (1 : Int), Value.slice (some { block := k4, off := (0 : Nat) : Addr }) (1 : Nat) (1 : Nat)] cMsg h17 fun (x3 : Msg) (h18 : Hp) =>
                                      allocP
                                        (Obj.cells
                                          {
                                            toList :=
                                              [Value.int IntKind.i64 (0 : Int), Value.int IntKind.i64 x3.Kind, Value.int IntKind.i64 x3.F_0, Value.int IntKind.i64 x3.F_1, Value.int IntKind.i64 x3.F_2, Value.int IntKind.i64 x3.F_3,
                                                Value.int IntKind.i64 x3.F_4, Value.int IntKind.i64 x3.F_5] :
                                            Array Value }
                                          (48 : Nat))
                                        h18 fun (k5 : Nat) (h19 : Hp) =>
                                        callP Try.prog (109 : Nat) [Value.slice (some { block := k5, off := (0 : Nat) : Addr }) (1 : Nat) (1 : Nat)] cSl h19 fun (s3 : Sl) (h20 : Hp) =>
                                          callP Try.prog (111 : Nat) [Value.pointer p1, Value.slice s3.a s3.len s3.cap] (tupC [cSl, cB]) h20 fun (z2 : Sl × Bool) (h21 : Hp) =>
                                            callP Try.prog (113 : Nat) [Value.pointer p1] cB h21 fun (t7 : Bool) (h22 : Hp) =>
                                              condP t7
                                                (callP Try.prog (112 : Nat) [Value.pointer p1] cSl h22 fun (s4 : Sl) (h23 : Hp) =>
                                                  condP ((↑s4.len : Int) == (1 : Int)) (callP Try.prog (114 : Nat) [] cB h23 fun (t8 : Bool) (h24 : Hp) => Q t8 h24) (Q false h23))
                                                (Q false h22))))
                        fun (J3 : Bool → Hp → Prop) => condP (!p1.isNone) (J3 (decide (n1 < p0)) h8) (J3 false h8)))
    fun (J4 : Bool → Hp → Prop) => condP (decide (p0 < (0 : Int))) (J4 true h) (J4 (decide (p0 > (512 : Int))) h)
theorem e41 (p0 : Int) (h : Hp) (Q : Bool → Hp → Prop) : fnD a41 Try.prog 41 n41 (cB) [Value.int IntKind.i64 p0] h Q = F41 p0 h Q := by kernel_rfl
theorem c41 {p0 : Int} {h : Hp} {Q : Bool → Hp → Prop} (hk : F41 p0 h Q) : callP Try.prog 41 [Value.int IntKind.i64 p0] (cB) h Q :=
  spec_of (prem_of prog_ok dep_ok eqs_ok rfl (by kernel_rfl)) mix_ok ((e41 p0 h Q).mpr hk)
end Go.Proofs.Ytmkgcdgpokidjaa
