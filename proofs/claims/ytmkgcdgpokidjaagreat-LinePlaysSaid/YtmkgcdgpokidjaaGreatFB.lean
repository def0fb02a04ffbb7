/- What the functions say, each as one statement: made by program (drive.py). -/
import Derived.Test.YtmkgcdgpokidjaaGreatTy
set_option linter.unusedVariables false
set_option maxRecDepth 20000
namespace Go.Proofs.YtmkgcdgpokidjaaGreat
open Go.Eng
def a20 : Ann := { prom := 0, refs := [], dyn := 0, bcd := fun s => match s with | _ => none, eqs := memL eqL, cdc := cdcs, res := ress, pure := memL [49], pan := memL [48, 81] }
def n20 : An := (.seq (.reg []) (.seq (.join [(8, false, cB)] 504 (.reg []) (.cond (.seq (.reg []) .leaf) .leaf)) (.seq (.reg []) .leaf)))
/-- consols/sess.New -/
def F20 (p0 : Int) (h : Hp) (Q : Option Addr → Hp → Prop) : Prop :=
  joinP
    (fun (t1 : Bool) (h1 : Hp) =>
      condP t1 (Q none h1)
        (callP Tryz.prog (44 : Nat) [] cP h1 fun (p1 : Option Addr) (h2 : Hp) =>
          allocP
            (Obj.cells
              { toList := [Value.int IntKind.i64 p0, Value.bool false, Value.int IntKind.i64 (1 : Int), Value.pointer p1, Value.int IntKind.i64 (0 : Int), Value.int IntKind.i64 (0 : Int), Value.int IntKind.i64 (0 : Int)] : Array Value }
              (86 : Nat))
            h2 fun (k1 : Nat) (h3 : Hp) => Q (some { block := k1, off := (0 : Nat) : Addr }) h3))
    fun (J1 : Bool → Hp → Prop) => condP (decide (p0 < (1 : Int))) (J1 true h) (J1 (decide (p0 > (1000 : Int))) h)
theorem e20 (p0 : Int) (h : Hp) (Q : Option Addr → Hp → Prop) : fnD a20 Tryz.prog 20 n20 (cP) [Value.int IntKind.i64 p0] h Q = F20 p0 h Q := by kernel_rfl
theorem c20 {p0 : Int} {h : Hp} {Q : Option Addr → Hp → Prop} (hk : F20 p0 h Q) : callP Tryz.prog 20 [Value.int IntKind.i64 p0] (cP) h Q :=
  spec_of (prem_of prog_ok dep_ok eqs_ok rfl (by kernel_rfl)) mix_ok ((e20 p0 h Q).mpr hk)
def a27 : Ann := { prom := 40, refs := [(16, 3), (20, 3), (21, 3), (27, 3), (28, 3), (29, 3)], dyn := 0, bcd := fun s => match s with | 3 => some (cFrame) | 5 => some (cMsg) | _ => none, eqs := memL eqL, cdc := cdcs, res := ress, pure := memL [49], pan := memL [48, 81] }
def n27 : An := (.seq (.reg []) (.seq (.seq (.reg []) (.cond (.seq (.reg []) .leaf) .leaf)) (.join [(4, false, cSl), (5, true, cMsg), (6, false, cB), (7, false, cB)] 562949953419504 (.seq (.reg []) (.cond (.join [(24, false, cB)] 33488896 (.reg []) (.cond (.reg []) .leaf)) (.seq (.reg []) (.seq (.reg []) (.reg []))))) (.join [] 35465847065542656 (.seq (.reg []) (.cond (.reg []) .leaf)) (.seq (.reg [(0, []), (1, []), (2, []), (3, []), (4, []), (5, []), (6, []), (7, [])]) .leaf)))))
/-- (*consols/sess.Sess).Take -/
def F27 (p0 : Option Addr) (p1 : Frame) (h : Hp) (Q : Sl × Msg × Bool × Bool → Hp → Prop) : Prop :=
  condP p0.isNone (Q ({ a := none, len := (0 : Nat), cap := (0 : Nat) : Sl }, { Kind := (0 : Int), F_0 := (0 : Int), F_1 := (0 : Int), F_2 := (0 : Int), F_3 := (0 : Int), F_4 := (0 : Int), F_5 := (0 : Int) : Msg }, false, false) h)
    (joinP
      (fun (z1 : Sl × Msg × Bool × Bool) (h1 : Hp) =>
        joinP (fun (u1 : PUnit) (h2 : Hp) => Q (z1.fst, z1.snd.fst, z1.snd.snd.fst, z1.snd.snd.snd) h2) fun (J1 : PUnit → Hp → Prop) =>
          condP (decide ((↑z1.fst.len : Int) > (0 : Int))) (nilP p0 fun (a1 : Addr) => storeP (cI IntKind.i64) { block := a1.block, off := a1.off + (5 : Nat) : Addr } (0 : Int) h1 fun (h3 : Hp) => J1 PUnit.unit h3) (J1 PUnit.unit h1))
      fun (J2 : Sl × Msg × Bool × Bool → Hp → Prop) =>
      nilP p0 fun (a2 : Addr) =>
        loadP cB { block := a2.block, off := a2.off + (1 : Nat) : Addr } h fun (t1 : Bool) =>
          condP (!t1)
            (joinP
              (fun (t2 : Bool) (h4 : Hp) =>
                condP t2
                  (atP (6 : Nat) (0 : Int)
                    (callP Tryz.prog (51 : Nat) [Value.pointer p0, Value.int IntKind.i64 p1.Msg_F_0] (tupC [cSl, cB]) h4 fun (z2 : Sl × Bool) (h5 : Hp) =>
                      J2 (z2.fst, { Kind := (0 : Int), F_0 := (0 : Int), F_1 := (0 : Int), F_2 := (0 : Int), F_3 := (0 : Int), F_4 := (0 : Int), F_5 := (0 : Int) : Msg }, false, false) h5))
                  (J2 ({ a := none, len := (0 : Nat), cap := (0 : Nat) : Sl }, { Kind := (0 : Int), F_0 := (0 : Int), F_1 := (0 : Int), F_2 := (0 : Int), F_3 := (0 : Int), F_4 := (0 : Int), F_5 := (0 : Int) : Msg }, false, false) h4))
              fun (J3 : Bool → Hp → Prop) => condP (p1.Seq == (0 : Int)) (J3 (p1.Msg_Kind == (1 : Int)) h) (J3 false h))
            (nilP p0 fun (a3 : Addr) =>
              storeP (cI IntKind.i64) { block := a3.block, off := a3.off + (6 : Nat) : Addr } (0 : Int) h fun (h6 : Hp) =>
                callP Tryz.prog (52 : Nat)
                  [Value.pointer p0,
                    Value.agg
                      {
                        toList :=
                          [Value.int IntKind.i64 p1.Seq, Value.int IntKind.i64 p1.Msg_Kind, Value.int IntKind.i64 p1.Msg_F_0, Value.int IntKind.i64 p1.Msg_F_1, Value.int IntKind.i64 p1.Msg_F_2, Value.int IntKind.i64 p1.Msg_F_3,
                            Value.int IntKind.i64 p1.Msg_F_4, Value.int IntKind.i64 p1.Msg_F_5] :
                        Array Value }]
                  (tupC [cSl, cMsg, cB]) h6 fun (z3 : Sl × Msg × Bool) (h7 : Hp) =>
                  nilP p0 fun (a4 : Addr) => loadP cB { block := a4.block, off := a4.off + (1 : Nat) : Addr } h7 fun (t3 : Bool) => J2 (z3.fst, z3.snd.fst, z3.snd.snd, !t3) h7))
theorem e27 (p0 : Option Addr) (p1 : Frame) (h : Hp) (Q : Sl × Msg × Bool × Bool → Hp → Prop) : fnD a27 Tryz.prog 27 n27 (tupC [cSl, cMsg, cB, cB]) [Value.pointer p0, cFrame.enc p1] h Q = F27 p0 p1 h Q := by kernel_rfl
theorem c27 {p0 : Option Addr} {p1 : Frame} {h : Hp} {Q : Sl × Msg × Bool × Bool → Hp → Prop} (hk : F27 p0 p1 h Q) : callP Tryz.prog 27 [Value.pointer p0, cFrame.enc p1] (tupC [cSl, cMsg, cB, cB]) h Q :=
  spec_of (prem_of prog_ok dep_ok eqs_ok rfl (by kernel_rfl)) mix_ok ((e27 p0 p1 h Q).mpr hk)
def a43 : Ann := { prom := 48, refs := [(24, 5), (25, 5)], dyn := 33554432, bcd := fun s => match s with | 4 => some (cMsg) | 5 => some (cMsg) | _ => none, eqs := memL eqL, cdc := cdcs, res := ress, pure := memL [49], pan := memL [48, 81] }
def n43 : An := (.seq (.reg []) (.seq (.reg []) (.seq (.seq (.reg []) (.block (.loop [(5, true, cMsg), (6, false, cI .i64)] 67108448 (.seq (.join [(16, false, cB)] 130560 (.reg []) (.cond .leaf .leaf)) (.seq (.block (.reg [])) (.reg [])))))) (.seq (.reg []) .leaf))))
/-- consols/consolsref5.Of -/
def F43 (p0 : Int) (p1 : Sl) (h : Hp) (Q : Msg → Hp → Prop) : Prop :=
  loopP ({ Kind := p0, F_0 := (0 : Int), F_1 := (0 : Int), F_2 := (0 : Int), F_3 := (0 : Int), F_4 := (0 : Int), F_5 := (0 : Int) : Msg }, (0 : Int)) h fun (J1 : Msg × Int → Hp → Prop) (z1 : Msg × Int) (h1 : Hp) =>
    joinP
      (fun (t1 : Bool) (h2 : Hp) =>
        condP t1
          (idxP p1.a p1.len z1.snd fun (a1 : Addr) =>
            loadP (cI IntKind.i64) (a1.add (z1.snd.toNat * (1 : Nat))) h2 fun (n1 : Int) =>
              atP (6 : Nat) z1.snd
                (storeLP cMsg
                  [Value.int IntKind.i64 z1.fst.Kind, Value.int IntKind.i64 z1.fst.F_0, Value.int IntKind.i64 z1.fst.F_1, Value.int IntKind.i64 z1.fst.F_2, Value.int IntKind.i64 z1.fst.F_3, Value.int IntKind.i64 z1.fst.F_4,
                    Value.int IntKind.i64 z1.fst.F_5]
                  ((1 : Nat) + z1.snd.toNat * (1 : Nat)) [Value.int IntKind.i64 n1] fun (x1 : Msg) => J1 (x1, IntKind.i64.wrap (z1.snd + (1 : Int))) h2))
          (Q z1.fst h2))
      fun (J2 : Bool → Hp → Prop) => condP (decide (z1.snd < (↑p1.len : Int))) (J2 (decide (z1.snd < (6 : Int))) h1) (J2 false h1)
theorem e43 (p0 : Int) (p1 : Sl) (h : Hp) (Q : Msg → Hp → Prop) : fnD a43 Tryz.prog 43 n43 (cMsg) [Value.int IntKind.i64 p0, Value.slice p1.a p1.len p1.cap] h Q = F43 p0 p1 h Q := by kernel_rfl
theorem c43 {p0 : Int} {p1 : Sl} {h : Hp} {Q : Msg → Hp → Prop} (hk : F43 p0 p1 h Q) : callP Tryz.prog 43 [Value.int IntKind.i64 p0, Value.slice p1.a p1.len p1.cap] (cMsg) h Q :=
  spec_of (prem_of prog_ok dep_ok eqs_ok rfl (by kernel_rfl)) mix_ok ((e43 p0 p1 h Q).mpr hk)
def a39 : Ann := { prom := 0, refs := [], dyn := 0, bcd := fun s => match s with | _ => none, eqs := memL eqL, cdc := cdcs, res := ress, pure := memL [49], pan := memL [48, 81] }
def n39 : An := (.seq (.reg []) (.seq (.join [(13, false, cB)] 16352 (.reg []) (.cond (.seq (.reg []) .leaf) .leaf)) (.seq (.reg []) (.seq (.reg []) (.seq (.reg [(0, []), (1, []), (2, []), (4, []), (5, []), (6, []), (3, []), (7, []), (8, []), (9, []), (10, [])]) (.seq (.blockJ [(2, false, cSl)] 38685626227667858712690700 (.join [(38, false, cB)] 4503324749463552 (.reg [(0, []), (1, []), (2, []), (3, []), (4, []), (6, []), (7, []), (8, []), (5, []), (9, []), (10, []), (11, []), (12, []), (13, [])]) (.cond (.seq (.reg []) (.seq (.reg []) .leaf)) (.join [(57, false, cB)] 2361039126246746750976 (.reg [(0, []), (1, []), (2, []), (3, []), (4, []), (6, []), (7, []), (8, []), (5, []), (9, []), (10, []), (11, []), (12, []), (13, [])]) (.cond (.reg []) (.seq (.reg [(0, []), (1, []), (2, []), (4, []), (5, []), (6, []), (3, []), (7, []), (8, []), (9, [])]) (.cond (.reg []) .leaf))))))) (.join [] 2437194452343092416207650816 (.seq (.reg []) (.cond (.reg []) .leaf)) (.seq (.reg []) .leaf))))))))
/-- (*consols/sess.Sess).Tick -/
def F39 (p0 : Option Addr) (h : Hp) (Q : Sl × Bool → Hp → Prop) : Prop :=
  joinP
    (fun (t1 : Bool) (h1 : Hp) =>
      condP t1 (Q ({ a := none, len := (0 : Nat), cap := (0 : Nat) : Sl }, false) h1)
        (nilP p0 fun (a1 : Addr) =>
          loadP (cI IntKind.i64) { block := a1.block, off := a1.off + (5 : Nat) : Addr } h1 fun (n1 : Int) =>
            nilP p0 fun (a2 : Addr) =>
              storeP (cI IntKind.i64) { block := a2.block, off := a2.off + (5 : Nat) : Addr } (IntKind.i64.wrap (n1 + (1 : Int))) h1 fun (h2 : Hp) =>
                nilP p0 fun (a3 : Addr) =>
                  loadP (cI IntKind.i64) { block := a3.block, off := a3.off + (6 : Nat) : Addr } h2 fun (n2 : Int) =>
                    nilP p0 fun (a4 : Addr) =>
                      storeP (cI IntKind.i64) { block := a4.block, off := a4.off + (6 : Nat) : Addr } (IntKind.i64.wrap (n2 + (1 : Int))) h2 fun (h3 : Hp) =>
                        nilP p0 fun (a5 : Addr) =>
                          nilP p0 fun (a6 : Addr) =>
                            loadP (cI IntKind.i64) { block := a5.block, off := a5.off + (6 : Nat) : Addr } h3 fun (n3 : Int) =>
                              loadP (cI IntKind.i64) (a6.add (0 : Nat)) h3 fun (n4 : Int) =>
                                n4 ≠ (0 : Int) ∧
                                  joinP
                                    (fun (s1 : Sl) (h4 : Hp) =>
                                      joinP (fun (u1 : PUnit) (h5 : Hp) => Q (s1, false) h5) fun (J1 : PUnit → Hp → Prop) =>
                                        condP (decide ((↑s1.len : Int) > (0 : Int))) (nilP p0 fun (a7 : Addr) => storeP (cI IntKind.i64) { block := a7.block, off := a7.off + (5 : Nat) : Addr } (0 : Int) h4 fun (h6 : Hp) => J1 PUnit.unit h6)
                                          (J1 PUnit.unit h4))
                                    fun (J2 : Sl → Hp → Prop) =>
                                    joinP
                                      (fun (t2 : Bool) (h7 : Hp) =>
                                        condP t2
                                          (nilP p0 fun (a8 : Addr) =>
                                            storeP cB { block := a8.block, off := a8.off + (1 : Nat) : Addr } false h7 fun (h8 : Hp) =>
                                              callP Tryz.prog (74 : Nat) [Value.int IntKind.i64 (5 : Int), Value.int IntKind.i64 (0 : Int)] cFrame h8 fun (x1 : Frame) (h9 : Hp) =>
                                                allocP
                                                  (Obj.cells
                                                    {
                                                      toList :=
                                                        [Value.int IntKind.i64 x1.Seq, Value.int IntKind.i64 x1.Msg_Kind, Value.int IntKind.i64 x1.Msg_F_0, Value.int IntKind.i64 x1.Msg_F_1, Value.int IntKind.i64 x1.Msg_F_2,
                                                          Value.int IntKind.i64 x1.Msg_F_3, Value.int IntKind.i64 x1.Msg_F_4, Value.int IntKind.i64 x1.Msg_F_5] :
                                                      Array Value }
                                                    (65 : Nat))
                                                  h9 fun (k1 : Nat) (h10 : Hp) => Q ({ a := some { block := k1, off := (0 : Nat) : Addr }, len := (1 : Nat), cap := (1 : Nat) : Sl }, true) h10)
                                          (joinP
                                            (fun (t3 : Bool) (h11 : Hp) =>
                                              condP t3
                                                (callP Tryz.prog (74 : Nat) [Value.int IntKind.i64 (3 : Int), Value.int IntKind.i64 (0 : Int)] cFrame h11 fun (x2 : Frame) (h12 : Hp) =>
                                                  allocP
                                                    (Obj.cells
                                                      {
                                                        toList :=
                                                          [Value.int IntKind.i64 x2.Seq, Value.int IntKind.i64 x2.Msg_Kind, Value.int IntKind.i64 x2.Msg_F_0, Value.int IntKind.i64 x2.Msg_F_1, Value.int IntKind.i64 x2.Msg_F_2,
                                                            Value.int IntKind.i64 x2.Msg_F_3, Value.int IntKind.i64 x2.Msg_F_4, Value.int IntKind.i64 x2.Msg_F_5] :
                                                        Array Value }
                                                      (65 : Nat))
                                                    h12 fun (k2 : Nat) (h13 : Hp) => J2 { a := some { block := k2, off := (0 : Nat) : Addr }, len := (1 : Nat), cap := (1 : Nat) : Sl } h13)
                                                (nilP p0 fun (a9 : Addr) =>
                                                  nilP p0 fun (a10 : Addr) =>
                                                    loadP (cI IntKind.i64) { block := a9.block, off := a9.off + (5 : Nat) : Addr } h11 fun (n5 : Int) =>
                                                      loadP (cI IntKind.i64) (a10.add (0 : Nat)) h11 fun (n6 : Int) =>
                                                        condP (decide (n5 ≥ n6))
                                                          (callP Tryz.prog (74 : Nat) [Value.int IntKind.i64 (2 : Int), Value.int IntKind.i64 (0 : Int)] cFrame h11 fun (x3 : Frame) (h14 : Hp) =>
                                                            allocP
                                                              (Obj.cells
                                                                {
                                                                  toList :=
                                                                    [Value.int IntKind.i64 x3.Seq, Value.int IntKind.i64 x3.Msg_Kind, Value.int IntKind.i64 x3.Msg_F_0, Value.int IntKind.i64 x3.Msg_F_1, Value.int IntKind.i64 x3.Msg_F_2,
                                                                      Value.int IntKind.i64 x3.Msg_F_3, Value.int IntKind.i64 x3.Msg_F_4, Value.int IntKind.i64 x3.Msg_F_5] :
                                                                  Array Value }
                                                                (65 : Nat))
                                                              h14 fun (k3 : Nat) (h15 : Hp) => J2 { a := some { block := k3, off := (0 : Nat) : Addr }, len := (1 : Nat), cap := (1 : Nat) : Sl } h15)
                                                          (J2 { a := none, len := (0 : Nat), cap := (0 : Nat) : Sl } h11)))
                                            fun (J3 : Bool → Hp → Prop) =>
                                            condP (n3.tmod n4 == (0 : Int))
                                              (nilP p0 fun (a11 : Addr) =>
                                                nilP p0 fun (a12 : Addr) =>
                                                  loadP (cI IntKind.i64) { block := a11.block, off := a11.off + (6 : Nat) : Addr } h7 fun (n7 : Int) =>
                                                    loadP (cI IntKind.i64) (a12.add (0 : Nat)) h7 fun (n8 : Int) => n8 ≠ (0 : Int) ∧ J3 (quoI IntKind.i64 n7 n8 == (2 : Int)) h7)
                                              (J3 false h7)))
                                      fun (J4 : Bool → Hp → Prop) =>
                                      condP (n3.tmod n4 == (0 : Int))
                                        (nilP p0 fun (a13 : Addr) =>
                                          nilP p0 fun (a14 : Addr) =>
                                            loadP (cI IntKind.i64) { block := a13.block, off := a13.off + (6 : Nat) : Addr } h3 fun (n9 : Int) =>
                                              loadP (cI IntKind.i64) (a14.add (0 : Nat)) h3 fun (n10 : Int) => n10 ≠ (0 : Int) ∧ J4 (quoI IntKind.i64 n9 n10 == (3 : Int)) h3)
                                        (J4 false h3)))
    fun (J5 : Bool → Hp → Prop) => condP p0.isNone (J5 true h) (nilP p0 fun (a15 : Addr) => loadP cB { block := a15.block, off := a15.off + (1 : Nat) : Addr } h fun (t4 : Bool) => J5 (!t4) h)
theorem e39 (p0 : Option Addr) (h : Hp) (Q : Sl × Bool → Hp → Prop) : fnD a39 Tryz.prog 39 n39 (tupC [cSl, cB]) [Value.pointer p0] h Q = F39 p0 h Q := by kernel_rfl
theorem c39 {p0 : Option Addr} {h : Hp} {Q : Sl × Bool → Hp → Prop} (hk : F39 p0 h Q) : callP Tryz.prog 39 [Value.pointer p0] (tupC [cSl, cB]) h Q :=
  spec_of (prem_of prog_ok dep_ok eqs_ok rfl (by kernel_rfl)) mix_ok ((e39 p0 h Q).mpr hk)
def a41 : Ann := { prom := 0, refs := [], dyn := 0, bcd := fun s => match s with | _ => none, eqs := memL eqL, cdc := cdcs, res := ress, pure := memL [49], pan := memL [48, 81] }
def n41 : An := (.seq (.reg []) (.seq (.reg []) .leaf))
/-- (*consols/sess.Sess).Up -/
def F41 (p0 : Option Addr) (h : Hp) (Q : Bool → Hp → Prop) : Prop :=
 condP (!p0.isNone) (nilP p0 fun (a1 : Addr) => loadP cB { block := a1.block, off := a1.off + (1 : Nat) : Addr } h fun (t1 : Bool) => Q t1 h) (Q false h)
theorem e41 (p0 : Option Addr) (h : Hp) (Q : Bool → Hp → Prop) : fnD a41 Tryz.prog 41 n41 (cB) [Value.pointer p0] h Q = F41 p0 h Q := by kernel_rfl
theorem c41 {p0 : Option Addr} {h : Hp} {Q : Bool → Hp → Prop} (hk : F41 p0 h Q) : callP Tryz.prog 41 [Value.pointer p0] (cB) h Q :=
  spec_of (prem_of prog_ok dep_ok eqs_ok rfl (by kernel_rfl)) mix_ok ((e41 p0 h Q).mpr hk)
def a54 : Ann := { prom := 0, refs := [], dyn := 0, bcd := fun s => match s with | _ => none, eqs := memL eqL, cdc := cdcs, res := ress, pure := memL [49], pan := memL [48, 81] }
def n54 : An := (.seq (.reg []) (.seq (.join [(12, false, cB)] 8176 (.reg []) (.cond (.seq (.reg []) .leaf) .leaf)) (.seq (.reg [(0, []), (2, []), (3, []), (6, []), (7, []), (8, []), (9, []), (1, []), (4, []), (10, []), (11, []), (12, []), (5, []), (13, []), (14, [])]) (.seq (.reg []) .leaf))))
/-- consols/msg.Bytes -/
def F54 (p0 : Frame) (h : Hp) (Q : Sl → Hp → Prop) : Prop :=
  allocP
    (Obj.cells
      {
        toList :=
          [Value.int IntKind.i64 p0.Seq, Value.int IntKind.i64 p0.Msg_Kind, Value.int IntKind.i64 p0.Msg_F_0, Value.int IntKind.i64 p0.Msg_F_1, Value.int IntKind.i64 p0.Msg_F_2, Value.int IntKind.i64 p0.Msg_F_3,
            Value.int IntKind.i64 p0.Msg_F_4, Value.int IntKind.i64 p0.Msg_F_5] :
        Array Value }
      (65 : Nat))
    h fun (k1 : Nat) (h1 : Hp) =>
    joinP
      (fun (t1 : Bool) (h2 : Hp) =>
        condP t1 (Q { a := none, len := (0 : Nat), cap := (0 : Nat) : Sl } h2)
          (loadP (cI IntKind.i64) { block := k1, off := (0 : Nat) : Addr } h2 fun (n1 : Int) =>
            loadP (cI IntKind.i64) { block := k1, off := (0 : Nat) + (1 : Nat) : Addr } h2 fun (n2 : Int) =>
              loadP (cI IntKind.i64) { block := k1, off := (0 : Nat) + (1 : Nat) : Addr } h2 fun (n3 : Int) =>
                pureP Tryz.prog (49 : Nat) [Value.int IntKind.i64 n3] (cI IntKind.i64) fun (n4 : Int) =>
                  cutP (6 : Nat) (6 : Nat) none (some n4) fun (k2 k3 : Nat) =>
                    allocP (Obj.cells { toList := [Value.int IntKind.i64 n1, Value.int IntKind.i64 n2] : Array Value } (2 : Nat)) h2 fun (k4 : Nat) (h3 : Hp) =>
                      appendP (cI IntKind.i64) (2 : Nat) (8 : Nat) (some { block := k4, off := (0 : Nat) : Addr }) (2 : Nat) (2 : Nat) (cutA (some { block := k1, off := (0 : Nat) + (1 : Nat) + (1 : Nat) : Addr }) k2 (6 : Nat) (1 : Nat))
                        (k3 - k2) h3 fun (p1 : Option Addr) (k5 k6 : Nat) (h4 : Hp) => callP Tryz.prog (86 : Nat) [Value.slice p1 k5 k6] cSl h4 fun (s1 : Sl) (h5 : Hp) => Q s1 h5))
      fun (J1 : Bool → Hp → Prop) =>
      loadP cMsg { block := k1, off := (0 : Nat) + (1 : Nat) : Addr } h1 fun (x1 : Msg) =>
        callP Tryz.prog (65 : Nat)
          [Value.agg
              { toList := [Value.int IntKind.i64 x1.Kind, Value.int IntKind.i64 x1.F_0, Value.int IntKind.i64 x1.F_1, Value.int IntKind.i64 x1.F_2, Value.int IntKind.i64 x1.F_3, Value.int IntKind.i64 x1.F_4, Value.int IntKind.i64 x1.F_5] :
                Array Value }]
          cB h1 fun (t2 : Bool) (h6 : Hp) => condP (!t2) (J1 true h6) (loadP (cI IntKind.i64) { block := k1, off := (0 : Nat) : Addr } h6 fun (n5 : Int) => J1 (decide (n5 < (0 : Int))) h6)
theorem e54 (p0 : Frame) (h : Hp) (Q : Sl → Hp → Prop) : fnD a54 Tryz.prog 54 n54 (cSl) [cFrame.enc p0] h Q = F54 p0 h Q := by kernel_rfl
theorem c54 {p0 : Frame} {h : Hp} {Q : Sl → Hp → Prop} (hk : F54 p0 h Q) : callP Tryz.prog 54 [cFrame.enc p0] (cSl) h Q :=
  spec_of (prem_of prog_ok dep_ok eqs_ok rfl (by kernel_rfl)) mix_ok ((e54 p0 h Q).mpr hk)
def a72 : Ann := { prom := 2, refs := [(5, 1), (9, 1), (14, 1), (16, 1), (17, 1), (21, 1), (22, 1), (30, 1), (31, 1), (32, 1)], dyn := 4294967296, bcd := fun s => match s with | 1 => some (cFrame) | _ => none, eqs := memL eqL, cdc := cdcs, res := ress, pure := memL [49], pan := memL [48, 81] }
def n72 : An := (.seq (.reg []) (.seq (.join [(13, false, cB)] 16352 (.reg []) (.cond (.seq (.reg []) .leaf) .leaf)) (.seq (.reg []) (.seq (.seq (.reg []) (.block (.loop [(3, false, cSl), (4, false, cI .i64)] 68718428184 (.seq (.seq (.reg []) (.cond .leaf .leaf)) (.seq (.block (.reg [])) (.reg [])))))) (.seq (.reg []) .leaf)))))
/-- consols/consolsref5.Bytes -/
def F72 (p0 : Frame) (h : Hp) (Q : Sl → Hp → Prop) : Prop :=
  joinP
    (fun (t1 : Bool) (h1 : Hp) =>
      condP t1 (Q { a := none, len := (0 : Nat), cap := (0 : Nat) : Sl } h1)
        (allocP (Obj.cells { toList := [Value.int IntKind.i64 p0.Seq, Value.int IntKind.i64 p0.Msg_Kind] : Array Value } (2 : Nat)) h1 fun (k1 : Nat) (h2 : Hp) =>
          loopP ({ a := some { block := k1, off := (0 : Nat) : Addr }, len := (2 : Nat), cap := (2 : Nat) : Sl }, (0 : Int)) h2 fun (J1 : Sl × Int → Hp → Prop) (z1 : Sl × Int) (h3 : Hp) =>
            callP Tryz.prog (60 : Nat) [Value.int IntKind.i64 p0.Msg_Kind] (cI IntKind.i64) h3 fun (n1 : Int) (h4 : Hp) =>
              condP (decide (z1.snd < n1))
                (atP (6 : Nat) z1.snd
                  (loadLP (cI IntKind.i64)
                    [Value.int IntKind.i64 p0.Seq, Value.int IntKind.i64 p0.Msg_Kind, Value.int IntKind.i64 p0.Msg_F_0, Value.int IntKind.i64 p0.Msg_F_1, Value.int IntKind.i64 p0.Msg_F_2, Value.int IntKind.i64 p0.Msg_F_3,
                      Value.int IntKind.i64 p0.Msg_F_4, Value.int IntKind.i64 p0.Msg_F_5]
                    ((2 : Nat) + z1.snd.toNat * (1 : Nat)) fun (n2 : Int) =>
                    allocP (Obj.cells { toList := [Value.int IntKind.i64 n2] : Array Value } (2 : Nat)) h4 fun (k2 : Nat) (h5 : Hp) =>
                      appendP (cI IntKind.i64) (2 : Nat) (8 : Nat) z1.fst.a z1.fst.len z1.fst.cap (some { block := k2, off := (0 : Nat) : Addr }) (1 : Nat) h5 fun (p1 : Option Addr) (k3 k4 : Nat) (h6 : Hp) =>
                        J1 ({ a := p1, len := k3, cap := k4 : Sl }, IntKind.i64.wrap (z1.snd + (1 : Int))) h6))
                (callP Tryz.prog (93 : Nat) [Value.slice z1.fst.a z1.fst.len z1.fst.cap] cSl h4 fun (s1 : Sl) (h7 : Hp) => Q s1 h7)))
    fun (J2 : Bool → Hp → Prop) =>
    condP (decide (p0.Seq < (0 : Int))) (J2 true h)
      (callP Tryz.prog (68 : Nat)
        [Value.agg
            {
              toList :=
                [Value.int IntKind.i64 p0.Msg_Kind, Value.int IntKind.i64 p0.Msg_F_0, Value.int IntKind.i64 p0.Msg_F_1, Value.int IntKind.i64 p0.Msg_F_2, Value.int IntKind.i64 p0.Msg_F_3, Value.int IntKind.i64 p0.Msg_F_4,
                  Value.int IntKind.i64 p0.Msg_F_5] :
              Array Value }]
        cB h fun (t2 : Bool) (h8 : Hp) => J2 (!t2) h8)
theorem e72 (p0 : Frame) (h : Hp) (Q : Sl → Hp → Prop) : fnD a72 Tryz.prog 72 n72 (cSl) [cFrame.enc p0] h Q = F72 p0 h Q := by kernel_rfl
theorem c72 {p0 : Frame} {h : Hp} {Q : Sl → Hp → Prop} (hk : F72 p0 h Q) : callP Tryz.prog 72 [cFrame.enc p0] (cSl) h Q :=
  spec_of (prem_of prog_ok dep_ok eqs_ok rfl (by kernel_rfl)) mix_ok ((e72 p0 h Q).mpr hk)
def a65 : Ann := { prom := 0, refs := [], dyn := 0, bcd := fun s => match s with | _ => none, eqs := memL eqL, cdc := cdcs, res := ress, pure := memL [49], pan := memL [48, 81] }
def n65 : An := (.seq (.reg []) (.seq (.reg []) (.seq (.seq (.reg []) (.cond (.seq (.reg []) .leaf) .leaf)) (.seq (.seq (.reg []) (.block (.loop [(15, false, cI .i64)] 4161572 (.seq (.reg []) (.seq (.cond .leaf .leaf) (.seq (.block (.seq (.reg []) (.seq (.reg []) (.cond (.seq (.reg []) .leaf) .leaf)))) (.reg []))))))) (.seq (.reg []) .leaf)))))
/-- consols/msg.Is -/
def F65 (p0 : Msg) (h : Hp) (Q : Bool → Hp → Prop) : Prop :=
  allocP
    (Obj.cells
      { toList := [Value.int IntKind.i64 p0.Kind, Value.int IntKind.i64 p0.F_0, Value.int IntKind.i64 p0.F_1, Value.int IntKind.i64 p0.F_2, Value.int IntKind.i64 p0.F_3, Value.int IntKind.i64 p0.F_4, Value.int IntKind.i64 p0.F_5] :
        Array Value }
      (30 : Nat))
    h fun (k1 : Nat) (h1 : Hp) =>
    loadP (cI IntKind.i64) { block := k1, off := (0 : Nat) : Addr } h1 fun (n1 : Int) =>
      pureP Tryz.prog (49 : Nat) [Value.int IntKind.i64 n1] (cI IntKind.i64) fun (n2 : Int) =>
        condP (decide (n2 < (0 : Int))) (Q false h1)
          (cutP (6 : Nat) (6 : Nat) (some n2) none fun (k2 k3 : Nat) =>
            loopP (0 : Int) h1 fun (J1 : Int → Hp → Prop) (n3 : Int) (h2 : Hp) =>
              condP (decide (n3 < (↑(k3 - k2) : Int)))
                (idxP (cutA (some { block := k1, off := (0 : Nat) + (1 : Nat) : Addr }) k2 (6 : Nat) (1 : Nat)) (k3 - k2) n3 fun (a1 : Addr) =>
                  loadP (cI IntKind.i64) (a1.add (n3.toNat * (1 : Nat))) h2 fun (n4 : Int) => condP (n4 != (0 : Int)) (Q false h2) (J1 (IntKind.i64.wrap (n3 + (1 : Int))) h2))
                (Q true h2))
theorem e65 (p0 : Msg) (h : Hp) (Q : Bool → Hp → Prop) : fnD a65 Tryz.prog 65 n65 (cB) [cMsg.enc p0] h Q = F65 p0 h Q := by kernel_rfl
theorem c65 {p0 : Msg} {h : Hp} {Q : Bool → Hp → Prop} (hk : F65 p0 h Q) : callP Tryz.prog 65 [cMsg.enc p0] (cB) h Q :=
  spec_of (prem_of prog_ok dep_ok eqs_ok rfl (by kernel_rfl)) mix_ok ((e65 p0 h Q).mpr hk)
def a68 : Ann := { prom := 2, refs := [(5, 1), (15, 1), (16, 1)], dyn := 65536, bcd := fun s => match s with | 1 => some (cMsg) | _ => none, eqs := memL eqL, cdc := cdcs, res := ress, pure := memL [49], pan := memL [48, 81] }
def n68 : An := (.seq (.reg []) (.seq (.reg []) (.seq (.seq (.reg []) (.block (.loop [(4, false, cI .i64)] 523284 (.seq (.seq (.reg []) (.cond .leaf .leaf)) (.seq (.block (.seq (.reg []) (.cond (.seq (.reg []) .leaf) .leaf))) (.reg [])))))) (.seq (.reg []) .leaf))))
/-- consols/consolsref5.Is -/
def F68 (p0 : Msg) (h : Hp) (Q : Bool → Hp → Prop) : Prop :=
  callP Tryz.prog (60 : Nat) [Value.int IntKind.i64 p0.Kind] (cI IntKind.i64) h fun (n1 : Int) (h1 : Hp) =>
    loopP (maxI n1 (0 : Int)) h1 fun (J1 : Int → Hp → Prop) (n2 : Int) (h2 : Hp) =>
      condP (decide (n2 < (6 : Int)))
        (atP (6 : Nat) n2
          (loadLP (cI IntKind.i64)
            [Value.int IntKind.i64 p0.Kind, Value.int IntKind.i64 p0.F_0, Value.int IntKind.i64 p0.F_1, Value.int IntKind.i64 p0.F_2, Value.int IntKind.i64 p0.F_3, Value.int IntKind.i64 p0.F_4, Value.int IntKind.i64 p0.F_5]
            ((1 : Nat) + n2.toNat * (1 : Nat)) fun (n3 : Int) => condP (n3 != (0 : Int)) (Q false h2) (J1 (IntKind.i64.wrap (n2 + (1 : Int))) h2)))
        (Q (decide (n1 ≥ (0 : Int))) h2)
theorem e68 (p0 : Msg) (h : Hp) (Q : Bool → Hp → Prop) : fnD a68 Tryz.prog 68 n68 (cB) [cMsg.enc p0] h Q = F68 p0 h Q := by kernel_rfl
theorem c68 {p0 : Msg} {h : Hp} {Q : Bool → Hp → Prop} (hk : F68 p0 h Q) : callP Tryz.prog 68 [cMsg.enc p0] (cB) h Q :=
  spec_of (prem_of prog_ok dep_ok eqs_ok rfl (by kernel_rfl)) mix_ok ((e68 p0 h Q).mpr hk)
def a26 : Ann := { prom := 0, refs := [], dyn := 0, bcd := fun s => match s with | _ => none, eqs := memL eqL, cdc := cdcs, res := ress, pure := memL [49], pan := memL [48, 81] }
def n26 : An := (.seq .regX (.seq .regX (.seq (.reg []) (.join [] 4278190080 (.join [(29, false, cB)] 1056964608 (.reg []) (.cond .regX .leaf)) (.seq (.reg []) (.join [] 8246337208320 (.seq (.reg []) (.cond .regX .leaf)) (.seq (.reg []) (.seq (.reg [(0, []), (1, []), (2, []), (3, []), (4, []), (5, [])]) (.seq (.reg []) .leaf)))))))))
/-- consols/msg.Read -/
def F26 (p0 : Sl) (h : Hp) (Q : Frame × Int → Hp → Prop) : Prop :=
  allocP
    (Obj.cells
      {
        toList :=
          [Value.int IntKind.i64 (0 : Int), Value.int IntKind.i64 (0 : Int), Value.int IntKind.i64 (0 : Int), Value.int IntKind.i64 (0 : Int), Value.int IntKind.i64 (0 : Int), Value.int IntKind.i64 (0 : Int),
            Value.int IntKind.i64 (0 : Int), Value.int IntKind.i64 (0 : Int)] :
        Array Value }
      (65 : Nat))
    h fun (k1 : Nat) (h1 : Hp) =>
    allocP (Obj.cells { toList := [Value.int IntKind.i64 (0 : Int)] : Array Value } (66 : Nat)) h1 fun (k2 : Nat) (h2 : Hp) =>
      callXP Tryz.prog (48 : Nat) [Value.slice p0.a p0.len p0.cap] (tupC [cI IntKind.i64, cSl]) h2
        (fun (z1 : Int × Sl) (h3 : Hp) =>
          callXP Tryz.prog (48 : Nat) [Value.slice z1.snd.a z1.snd.len z1.snd.cap] (tupC [cI IntKind.i64, cSl]) h3
            (fun (z2 : Int × Sl) (h4 : Hp) =>
              pureP Tryz.prog (49 : Nat) [Value.int IntKind.i64 z2.fst] (cI IntKind.i64) fun (n1 : Int) =>
                joinP
                  (fun (u1 : PUnit) (h5 : Hp) =>
                    callP Tryz.prog (50 : Nat) [Value.slice p0.a p0.len p0.cap, Value.int IntKind.i64 (IntKind.i64.wrap ((2 : Int) + n1))] (tupC [cSl, cI IntKind.i64]) h5 fun (z3 : Sl × Int) (h6 : Hp) =>
                      joinP
                        (fun (u2 : PUnit) (h7 : Hp) =>
                          storeP cFrame { block := k1, off := (0 : Nat) : Addr }
                            { Seq := z1.fst, Msg_Kind := z2.fst, Msg_F_0 := (0 : Int), Msg_F_1 := (0 : Int), Msg_F_2 := (0 : Int), Msg_F_3 := (0 : Int), Msg_F_4 := (0 : Int), Msg_F_5 := (0 : Int) : Frame } h7 fun (h8 : Hp) =>
                            cutP (6 : Nat) (6 : Nat) none none fun (k3 k4 : Nat) =>
                              cutP z3.fst.len z3.fst.cap (some (2 : Int)) none fun (k5 k6 : Nat) =>
                                copyP (cI IntKind.i64) (cutA (some { block := k1, off := (0 : Nat) + (1 : Nat) + (1 : Nat) : Addr }) k3 (6 : Nat) (1 : Nat)) (k4 - k3) (cutA z3.fst.a k5 z3.fst.cap (1 : Nat)) (k6 - k5) h8
                                  fun (n2 : Int) (h9 : Hp) =>
                                  loadP cFrame { block := k1, off := (0 : Nat) : Addr } h9 fun (x1 : Frame) =>
                                    storeP cFrame { block := k1, off := (0 : Nat) : Addr } x1 h9 fun (h10 : Hp) =>
                                      storeP (cI IntKind.i64) { block := k2, off := (0 : Nat) : Addr } (0 : Int) h10 fun (h11 : Hp) =>
                                        deferP Tryz.prog (47 : Nat) [Value.pointer (some { block := k1, off := (0 : Nat) : Addr }), Value.pointer (some { block := k2, off := (0 : Nat) : Addr })] none h11 fun (h12 : Hp) =>
                                          loadP cFrame { block := k1, off := (0 : Nat) : Addr } h12 fun (x2 : Frame) => loadP (cI IntKind.i64) { block := k2, off := (0 : Nat) : Addr } h12 fun (n3 : Int) => Q (x2, n3) h12)
                        fun (J1 : PUnit → Hp → Prop) =>
                        condP (z3.snd != (0 : Int))
                          (deferP Tryz.prog (47 : Nat) [Value.pointer (some { block := k1, off := (0 : Nat) : Addr }), Value.pointer (some { block := k2, off := (0 : Nat) : Addr })]
                            (some (Value.iface (100 : Nat) (Value.agg { toList := [] : Array Value }))) h6 fun (h13 : Hp) =>
                            loadP cFrame { block := k1, off := (0 : Nat) : Addr } h13 fun (x3 : Frame) => loadP (cI IntKind.i64) { block := k2, off := (0 : Nat) : Addr } h13 fun (n4 : Int) => Q (x3, n4) h13)
                          (J1 PUnit.unit h6))
                  fun (J2 : PUnit → Hp → Prop) =>
                  joinP
                    (fun (t1 : Bool) (h14 : Hp) =>
                      condP t1
                        (deferP Tryz.prog (47 : Nat) [Value.pointer (some { block := k1, off := (0 : Nat) : Addr }), Value.pointer (some { block := k2, off := (0 : Nat) : Addr })]
                          (some (Value.iface (100 : Nat) (Value.agg { toList := [] : Array Value }))) h14 fun (h15 : Hp) =>
                          loadP cFrame { block := k1, off := (0 : Nat) : Addr } h15 fun (x4 : Frame) => loadP (cI IntKind.i64) { block := k2, off := (0 : Nat) : Addr } h15 fun (n5 : Int) => Q (x4, n5) h15)
                        (J2 PUnit.unit h14))
                    fun (J3 : Bool → Hp → Prop) => condP (decide (z1.fst < (0 : Int))) (J3 true h4) (J3 (decide (n1 < (0 : Int))) h4))
            fun (x5 : Value) (h16 : Hp) =>
            deferP Tryz.prog (47 : Nat) [Value.pointer (some { block := k1, off := (0 : Nat) : Addr }), Value.pointer (some { block := k2, off := (0 : Nat) : Addr })] (some x5) h16 fun (h17 : Hp) =>
              loadP cFrame { block := k1, off := (0 : Nat) : Addr } h17 fun (x6 : Frame) => loadP (cI IntKind.i64) { block := k2, off := (0 : Nat) : Addr } h17 fun (n6 : Int) => Q (x6, n6) h17)
        fun (x7 : Value) (h18 : Hp) =>
        deferP Tryz.prog (47 : Nat) [Value.pointer (some { block := k1, off := (0 : Nat) : Addr }), Value.pointer (some { block := k2, off := (0 : Nat) : Addr })] (some x7) h18 fun (h19 : Hp) =>
          loadP cFrame { block := k1, off := (0 : Nat) : Addr } h19 fun (x8 : Frame) => loadP (cI IntKind.i64) { block := k2, off := (0 : Nat) : Addr } h19 fun (n7 : Int) => Q (x8, n7) h19
theorem e26 (p0 : Sl) (h : Hp) (Q : Frame × Int → Hp → Prop) : fnDD a26 Tryz.prog 26 n26 (tupC [cFrame, cI .i64]) [Value.slice p0.a p0.len p0.cap] h Q = F26 p0 h Q := by kernel_rfl
theorem c26 {p0 : Sl} {h : Hp} {Q : Frame × Int → Hp → Prop} (hk : F26 p0 h Q) : callP Tryz.prog 26 [Value.slice p0.a p0.len p0.cap] (tupC [cFrame, cI .i64]) h Q :=
  specDD_of (prem_of prog_ok dep_ok eqs_ok rfl (by kernel_rfl)) mix_ok ((e26 p0 h Q).mpr hk)
def a30 : Ann := { prom := 1028, refs := [(76, 10), (77, 10), (78, 10)], dyn := 302231454903657293676544, bcd := fun s => match s with | 2 => some (cFrame) | 10 => some (cFrame) | _ => none, eqs := memL eqL, cdc := cdcs, res := ress, pure := memL [49], pan := memL [48, 81] }
def n30 : An := (.seq (.reg []) (.seq (.reg []) (.seq (.reg []) (.seq (.join [(45, false, cB)] 70368475742208 (.reg []) (.cond (.seq (.reg []) .leaf) .leaf)) (.seq (.reg []) (.seq (.reg [(0, []), (1, []), (2, []), (3, []), (4, []), (5, []), (6, []), (7, []), (8, []), (9, []), (10, []), (11, []), (12, [])]) (.seq (.seq (.reg []) (.cond (.seq (.reg []) .leaf) .leaf)) (.seq (.seq (.reg []) (.block (.loop [(10, true, cFrame), (13, false, cI .i64)] 604426016319167168259072 (.seq (.seq (.reg []) (.cond .leaf .leaf)) (.seq (.block (.reg [])) (.reg [])))))) (.seq (.reg []) .leaf)))))))))
/-- consols/consolsref5.Read -/
def F30 (p0 : Sl) (h : Hp) (Q : Frame × Int → Hp → Prop) : Prop :=
  callP Tryz.prog (58 : Nat) [Value.slice p0.a p0.len p0.cap] (tupC [cI IntKind.i64, cI IntKind.i64, cB]) h fun (z1 : Int × Int × Bool) (h1 : Hp) =>
    cutP p0.len p0.cap (some z1.snd.fst) none fun (k1 k2 : Nat) =>
      callP Tryz.prog (58 : Nat) [Value.slice (cutA p0.a k1 p0.cap (1 : Nat)) (k2 - k1) (p0.cap - k1)] (tupC [cI IntKind.i64, cI IntKind.i64, cB]) h1 fun (z2 : Int × Int × Bool) (h2 : Hp) =>
        joinP
          (fun (t1 : Bool) (h3 : Hp) =>
            condP t1 (Q ({ Seq := (0 : Int), Msg_Kind := (0 : Int), Msg_F_0 := (0 : Int), Msg_F_1 := (0 : Int), Msg_F_2 := (0 : Int), Msg_F_3 := (0 : Int), Msg_F_4 := (0 : Int), Msg_F_5 := (0 : Int) : Frame }, (2 : Int)) h3)
              (cutP p0.len p0.cap (some (IntKind.i64.wrap (z1.snd.fst + z2.snd.fst))) none fun (k3 k4 : Nat) =>
                callP Tryz.prog (60 : Nat) [Value.int IntKind.i64 z2.fst] (cI IntKind.i64) h3 fun (n1 : Int) (h4 : Hp) =>
                  callP Tryz.prog (59 : Nat) [Value.slice (cutA p0.a k3 p0.cap (1 : Nat)) (k4 - k3) (p0.cap - k3), Value.int IntKind.i64 n1] (tupC [cSl, cI IntKind.i64]) h4 fun (z3 : Sl × Int) (h5 : Hp) =>
                    condP (z3.snd != (0 : Int))
                      (Q ({ Seq := (0 : Int), Msg_Kind := (0 : Int), Msg_F_0 := (0 : Int), Msg_F_1 := (0 : Int), Msg_F_2 := (0 : Int), Msg_F_3 := (0 : Int), Msg_F_4 := (0 : Int), Msg_F_5 := (0 : Int) : Frame }, (2 : Int)) h5)
                      (loopP ({ Seq := z1.fst, Msg_Kind := z2.fst, Msg_F_0 := (0 : Int), Msg_F_1 := (0 : Int), Msg_F_2 := (0 : Int), Msg_F_3 := (0 : Int), Msg_F_4 := (0 : Int), Msg_F_5 := (0 : Int) : Frame }, (0 : Int)) h5
                        fun (J1 : Frame × Int → Hp → Prop) (z4 : Frame × Int) (h6 : Hp) =>
                        condP (decide (z4.snd < (↑z3.fst.len : Int)))
                          (idxP z3.fst.a z3.fst.len z4.snd fun (a1 : Addr) =>
                            loadP (cI IntKind.i64) (a1.add (z4.snd.toNat * (1 : Nat))) h6 fun (n2 : Int) =>
                              atP (6 : Nat) z4.snd
                                (storeLP cFrame
                                  [Value.int IntKind.i64 z4.fst.Seq, Value.int IntKind.i64 z4.fst.Msg_Kind, Value.int IntKind.i64 z4.fst.Msg_F_0, Value.int IntKind.i64 z4.fst.Msg_F_1, Value.int IntKind.i64 z4.fst.Msg_F_2,
                                    Value.int IntKind.i64 z4.fst.Msg_F_3, Value.int IntKind.i64 z4.fst.Msg_F_4, Value.int IntKind.i64 z4.fst.Msg_F_5]
                                  ((2 : Nat) + z4.snd.toNat * (1 : Nat)) [Value.int IntKind.i64 n2] fun (x1 : Frame) => J1 (x1, IntKind.i64.wrap (z4.snd + (1 : Int))) h6))
                          (Q (z4.fst, (0 : Int)) h6))))
          fun (J2 : Bool → Hp → Prop) =>
          condP (!z1.snd.snd) (J2 true h2) (condP (!z2.snd.snd) (J2 true h2) (condP (decide (z1.fst < (0 : Int))) (J2 true h2) (condP (decide (z2.fst < (1 : Int))) (J2 true h2) (J2 (decide (z2.fst > (28 : Int))) h2))))
theorem e30 (p0 : Sl) (h : Hp) (Q : Frame × Int → Hp → Prop) : fnD a30 Tryz.prog 30 n30 (tupC [cFrame, cI .i64]) [Value.slice p0.a p0.len p0.cap] h Q = F30 p0 h Q := by kernel_rfl
theorem c30 {p0 : Sl} {h : Hp} {Q : Frame × Int → Hp → Prop} (hk : F30 p0 h Q) : callP Tryz.prog 30 [Value.slice p0.a p0.len p0.cap] (tupC [cFrame, cI .i64]) h Q :=
  spec_of (prem_of prog_ok dep_ok eqs_ok rfl (by kernel_rfl)) mix_ok ((e30 p0 h Q).mpr hk)
def a60 : Ann := { prom := 0, refs := [], dyn := 0, bcd := fun s => match s with | _ => none, eqs := memL eqL, cdc := cdcs, res := ress, pure := memL [49], pan := memL [48, 81] }
def n60 : An := (.seq (.reg []) (.seq (.reg []) (.seq (.join [(12, false, cB)] 8160 (.reg []) (.cond (.seq (.reg []) .leaf) .leaf)) (.seq (.reg []) .leaf))))
/-- consols/consolsref5.Many -/
def F60 (p0 : Int) (h : Hp) (Q : Int → Hp → Prop) : Prop :=
  allocP
    (Obj.cells
      {
        toList :=
          [Value.int IntKind.i64 (-1 : Int), Value.int IntKind.i64 (1 : Int), Value.int IntKind.i64 (0 : Int), Value.int IntKind.i64 (0 : Int), Value.int IntKind.i64 (1 : Int), Value.int IntKind.i64 (0 : Int),
            Value.int IntKind.i64 (5 : Int), Value.int IntKind.i64 (1 : Int), Value.int IntKind.i64 (3 : Int), Value.int IntKind.i64 (5 : Int), Value.int IntKind.i64 (3 : Int), Value.int IntKind.i64 (1 : Int),
            Value.int IntKind.i64 (1 : Int), Value.int IntKind.i64 (1 : Int), Value.int IntKind.i64 (1 : Int), Value.int IntKind.i64 (1 : Int), Value.int IntKind.i64 (1 : Int), Value.int IntKind.i64 (2 : Int),
            Value.int IntKind.i64 (2 : Int), Value.int IntKind.i64 (2 : Int), Value.int IntKind.i64 (4 : Int), Value.int IntKind.i64 (2 : Int), Value.int IntKind.i64 (5 : Int), Value.int IntKind.i64 (4 : Int),
            Value.int IntKind.i64 (3 : Int), Value.int IntKind.i64 (2 : Int), Value.int IntKind.i64 (2 : Int), Value.int IntKind.i64 (1 : Int), Value.int IntKind.i64 (6 : Int)] :
        Array Value }
      (3 : Nat))
    h fun (k1 : Nat) (h1 : Hp) =>
    joinP (fun (t1 : Bool) (h2 : Hp) => condP t1 (Q (-1 : Int) h2) (idxP (some { block := k1, off := (0 : Nat) : Addr }) (29 : Nat) p0 fun (a1 : Addr) => loadP (cI IntKind.i64) (a1.add (p0.toNat * (1 : Nat))) h2 fun (n1 : Int) => Q n1 h2))
      fun (J1 : Bool → Hp → Prop) => condP (decide (p0 < (0 : Int))) (J1 true h1) (J1 (decide (p0 ≥ (29 : Int))) h1)
theorem e60 (p0 : Int) (h : Hp) (Q : Int → Hp → Prop) : fnD a60 Tryz.prog 60 n60 (cI .i64) [Value.int IntKind.i64 p0] h Q = F60 p0 h Q := by kernel_rfl
theorem c60 {p0 : Int} {h : Hp} {Q : Int → Hp → Prop} (hk : F60 p0 h Q) : callP Tryz.prog 60 [Value.int IntKind.i64 p0] (cI .i64) h Q :=
  spec_of (prem_of prog_ok dep_ok eqs_ok rfl (by kernel_rfl)) mix_ok ((e60 p0 h Q).mpr hk)
def a49 : Ann := { prom := 0, refs := [], dyn := 0, bcd := fun s => match s with | _ => none, eqs := memL eqL, cdc := cdcs, res := ress, pure := memL [49], pan := memL [48, 81] }
def n49 : An := (.seq (.reg []) (.seq (.seq (.reg []) (.block (.join [(4, false, cB)] 240 (.seq (.reg []) (.cond .leaf (.seq (.reg []) (.cond .leaf (.reg []))))) (.cond (.seq (.reg []) .leaf) (.join [(8, false, cB)] 524032 (.seq (.reg []) (.cond .leaf (.seq (.reg []) (.cond .leaf (.seq (.reg []) (.cond .leaf (.seq (.reg []) (.cond .leaf (.seq (.reg []) (.cond .leaf (.seq (.reg []) (.cond .leaf (.seq (.reg []) (.cond .leaf (.seq (.reg []) (.cond .leaf (.seq (.reg []) (.cond .leaf (.reg []))))))))))))))))))) (.cond (.seq (.reg []) .leaf) (.join [(19, false, cB)] 66584576 (.seq (.reg []) (.cond .leaf (.seq (.reg []) (.cond .leaf (.seq (.reg []) (.cond .leaf (.seq (.reg []) (.cond .leaf (.seq (.reg []) (.cond .leaf (.reg []))))))))))) (.cond (.seq (.reg []) .leaf) (.join [(26, false, cB)] 1006632960 (.seq (.reg []) (.cond .leaf (.seq (.reg []) (.cond .leaf (.reg []))))) (.cond (.seq (.reg []) .leaf) (.join [(30, false, cB)] 7516192768 (.seq (.reg []) (.cond .leaf (.reg []))) (.cond (.seq (.reg []) .leaf) (.join [(33, false, cB)] 128849018880 (.seq (.reg []) (.cond .leaf (.seq (.reg []) (.cond .leaf (.reg []))))) (.cond (.seq (.reg []) .leaf) (.seq (.reg []) (.cond (.seq (.reg []) .leaf) .leaf)))))))))))))))) (.seq (.reg []) .leaf)))
/-- consols/msg.Many -/
def F49 (p0 : Int) (h : Hp) (Q : Int → Hp → Prop) : Prop :=
  joinP
    (fun (t1 : Bool) (h1 : Hp) =>
      condP t1 (Q (0 : Int) h1)
        (joinP
          (fun (t2 : Bool) (h2 : Hp) =>
            condP t2 (Q (1 : Int) h2)
              (joinP
                (fun (t3 : Bool) (h3 : Hp) =>
                  condP t3 (Q (2 : Int) h3)
                    (joinP
                      (fun (t4 : Bool) (h4 : Hp) =>
                        condP t4 (Q (3 : Int) h4)
                          (joinP
                            (fun (t5 : Bool) (h5 : Hp) =>
                              condP t5 (Q (4 : Int) h5)
                                (joinP (fun (t6 : Bool) (h6 : Hp) => condP t6 (Q (5 : Int) h6) (condP (p0 == (28 : Int)) (Q (6 : Int) h6) (Q (-1 : Int) h6))) fun (J1 : Bool → Hp → Prop) =>
                                  condP (p0 == (6 : Int)) (J1 (p0 == (6 : Int)) h5) (condP (p0 == (9 : Int)) (J1 (p0 == (9 : Int)) h5) (J1 (p0 == (22 : Int)) h5))))
                            fun (J2 : Bool → Hp → Prop) => condP (p0 == (20 : Int)) (J2 (p0 == (20 : Int)) h4) (J2 (p0 == (23 : Int)) h4)))
                      fun (J3 : Bool → Hp → Prop) => condP (p0 == (8 : Int)) (J3 (p0 == (8 : Int)) h3) (condP (p0 == (10 : Int)) (J3 (p0 == (10 : Int)) h3) (J3 (p0 == (24 : Int)) h3))))
                fun (J4 : Bool → Hp → Prop) =>
                condP (p0 == (17 : Int)) (J4 (p0 == (17 : Int)) h2)
                  (condP (p0 == (18 : Int)) (J4 (p0 == (18 : Int)) h2)
                    (condP (p0 == (19 : Int)) (J4 (p0 == (19 : Int)) h2) (condP (p0 == (21 : Int)) (J4 (p0 == (21 : Int)) h2) (condP (p0 == (25 : Int)) (J4 (p0 == (25 : Int)) h2) (J4 (p0 == (26 : Int)) h2)))))))
          fun (J5 : Bool → Hp → Prop) =>
          condP (p0 == (1 : Int)) (J5 (p0 == (1 : Int)) h1)
            (condP (p0 == (4 : Int)) (J5 (p0 == (4 : Int)) h1)
              (condP (p0 == (7 : Int)) (J5 (p0 == (7 : Int)) h1)
                (condP (p0 == (11 : Int)) (J5 (p0 == (11 : Int)) h1)
                  (condP (p0 == (12 : Int)) (J5 (p0 == (12 : Int)) h1)
                    (condP (p0 == (13 : Int)) (J5 (p0 == (13 : Int)) h1)
                      (condP (p0 == (14 : Int)) (J5 (p0 == (14 : Int)) h1) (condP (p0 == (15 : Int)) (J5 (p0 == (15 : Int)) h1) (condP (p0 == (16 : Int)) (J5 (p0 == (16 : Int)) h1) (J5 (p0 == (27 : Int)) h1)))))))))))
    fun (J6 : Bool → Hp → Prop) => condP (p0 == (2 : Int)) (J6 (p0 == (2 : Int)) h) (condP (p0 == (3 : Int)) (J6 (p0 == (3 : Int)) h) (J6 (p0 == (5 : Int)) h))
theorem e49 (p0 : Int) (h : Hp) (Q : Int → Hp → Prop) : fnD a49 Tryz.prog 49 n49 (cI .i64) [Value.int IntKind.i64 p0] h Q = F49 p0 h Q := by kernel_rfl
theorem c49 {p0 : Int} {h : Hp} {Q : Int → Hp → Prop} (hk : F49 p0 h Q) : callP Tryz.prog 49 [Value.int IntKind.i64 p0] (cI .i64) h Q :=
  spec_of (prem_of prog_ok dep_ok eqs_ok rfl (by kernel_rfl)) mix_ok ((e49 p0 h Q).mpr hk)
def a66 : Ann := { prom := 0, refs := [], dyn := 0, bcd := fun s => match s with | _ => none, eqs := memL eqL, cdc := cdcs, res := ress, pure := memL [49], pan := memL [48, 81] }
def n66 : An := (.seq (.reg []) (.seq (.reg []) .leaf))
/-- consols/msg.Session -/
def F66 (p0 : Int) (h : Hp) (Q : Bool → Hp → Prop) : Prop :=
 condP (decide (p0 ≥ (1 : Int))) (Q (decide (p0 ≤ (5 : Int))) h) (Q false h)
theorem e66 (p0 : Int) (h : Hp) (Q : Bool → Hp → Prop) : fnD a66 Tryz.prog 66 n66 (cB) [Value.int IntKind.i64 p0] h Q = F66 p0 h Q := by kernel_rfl
theorem c66 {p0 : Int} {h : Hp} {Q : Bool → Hp → Prop} (hk : F66 p0 h Q) : callP Tryz.prog 66 [Value.int IntKind.i64 p0] (cB) h Q :=
  spec_of (prem_of prog_ok dep_ok eqs_ok rfl (by kernel_rfl)) mix_ok ((e66 p0 h Q).mpr hk)
def a69 : Ann := { prom := 0, refs := [], dyn := 0, bcd := fun s => match s with | _ => none, eqs := memL eqL, cdc := cdcs, res := ress, pure := memL [49], pan := memL [48, 81] }
def n69 : An := (.seq (.reg []) (.seq (.reg []) .leaf))
/-- consols/consolsref5.Session -/
def F69 (p0 : Int) (h : Hp) (Q : Bool → Hp → Prop) : Prop :=
 condP (decide (p0 ≥ (1 : Int))) (Q (decide (p0 ≤ (5 : Int))) h) (Q false h)
theorem e69 (p0 : Int) (h : Hp) (Q : Bool → Hp → Prop) : fnD a69 Tryz.prog 69 n69 (cB) [Value.int IntKind.i64 p0] h Q = F69 p0 h Q := by kernel_rfl
theorem c69 {p0 : Int} {h : Hp} {Q : Bool → Hp → Prop} (hk : F69 p0 h Q) : callP Tryz.prog 69 [Value.int IntKind.i64 p0] (cB) h Q :=
  spec_of (prem_of prog_ok dep_ok eqs_ok rfl (by kernel_rfl)) mix_ok ((e69 p0 h Q).mpr hk)
def a84 : Ann := { prom := 0, refs := [], dyn := 0, bcd := fun s => match s with | _ => none, eqs := memL eqL, cdc := cdcs, res := ress, pure := memL [49], pan := memL [48, 81] }
def n84 : An := (.seq (.reg []) (.seq (.reg []) .leaf))
/-- consols/msg.Asked -/
def F84 (p0 : Int) (h : Hp) (Q : Bool → Hp → Prop) : Prop :=
 condP (decide (p0 ≥ (6 : Int))) (Q (decide (p0 ≤ (17 : Int))) h) (Q false h)
theorem e84 (p0 : Int) (h : Hp) (Q : Bool → Hp → Prop) : fnD a84 Tryz.prog 84 n84 (cB) [Value.int IntKind.i64 p0] h Q = F84 p0 h Q := by kernel_rfl
theorem c84 {p0 : Int} {h : Hp} {Q : Bool → Hp → Prop} (hk : F84 p0 h Q) : callP Tryz.prog 84 [Value.int IntKind.i64 p0] (cB) h Q :=
  spec_of (prem_of prog_ok dep_ok eqs_ok rfl (by kernel_rfl)) mix_ok ((e84 p0 h Q).mpr hk)
def a63 : Ann := { prom := 0, refs := [], dyn := 0, bcd := fun s => match s with | _ => none, eqs := memL eqL, cdc := cdcs, res := ress, pure := memL [49], pan := memL [48, 81] }
def n63 : An := (.seq (.reg []) (.seq (.reg []) .leaf))
/-- consols/consolsref5.Asked -/
def F63 (p0 : Int) (h : Hp) (Q : Bool → Hp → Prop) : Prop :=
 condP (decide (p0 ≥ (6 : Int))) (Q (decide (p0 ≤ (17 : Int))) h) (Q false h)
theorem e63 (p0 : Int) (h : Hp) (Q : Bool → Hp → Prop) : fnD a63 Tryz.prog 63 n63 (cB) [Value.int IntKind.i64 p0] h Q = F63 p0 h Q := by kernel_rfl
theorem c63 {p0 : Int} {h : Hp} {Q : Bool → Hp → Prop} (hk : F63 p0 h Q) : callP Tryz.prog 63 [Value.int IntKind.i64 p0] (cB) h Q :=
  spec_of (prem_of prog_ok dep_ok eqs_ok rfl (by kernel_rfl)) mix_ok ((e63 p0 h Q).mpr hk)
def a33 : Ann := { prom := 24, refs := [(14, 3)], dyn := 0, bcd := fun s => match s with | 3 => some (cMsg) | 4 => some (cFrame) | _ => none, eqs := memL eqL, cdc := cdcs, res := ress, pure := memL [49], pan := memL [48, 81] }
def n33 : An := (.seq (.reg []) (.seq (.join [(17, false, cB)] 262080 (.reg []) (.cond (.seq (.reg []) .leaf) .leaf)) (.join [] 66584576 (.seq (.reg []) (.cond (.reg []) .leaf)) (.seq (.reg [(0, []), (1, []), (2, []), (4, []), (6, []), (7, []), (8, []), (3, []), (9, []), (5, [9]), (10, []), (11, [])]) .leaf))))
/-- (*consols/sess.Sess).Send -/
def F33 (p0 : Option Addr) (p1 : Msg) (h : Hp) (Q : Frame × Bool → Hp → Prop) : Prop :=
  joinP
    (fun (t1 : Bool) (h1 : Hp) =>
      condP t1 (Q ({ Seq := (0 : Int), Msg_Kind := (0 : Int), Msg_F_0 := (0 : Int), Msg_F_1 := (0 : Int), Msg_F_2 := (0 : Int), Msg_F_3 := (0 : Int), Msg_F_4 := (0 : Int), Msg_F_5 := (0 : Int) : Frame }, false) h1)
        (joinP
          (fun (u1 : PUnit) (h2 : Hp) =>
            nilP p0 fun (a1 : Addr) =>
              nilP p0 fun (a2 : Addr) =>
                loadP cP { block := a1.block, off := a1.off + (3 : Nat) : Addr } h2 fun (p1_1 : Option Addr) =>
                  loadP cB { block := a2.block, off := a2.off + (1 : Nat) : Addr } h2 fun (t2 : Bool) =>
                    callP Tryz.prog (67 : Nat)
                      [Value.pointer p1_1,
                        Value.agg
                          {
                            toList :=
                              [Value.int IntKind.i64 p1.Kind, Value.int IntKind.i64 p1.F_0, Value.int IntKind.i64 p1.F_1, Value.int IntKind.i64 p1.F_2, Value.int IntKind.i64 p1.F_3, Value.int IntKind.i64 p1.F_4,
                                Value.int IntKind.i64 p1.F_5] :
                            Array Value }]
                      cFrame h2 fun (x1 : Frame) (h3 : Hp) => (h3.rds { block := a2.block, off := a2.off + (1 : Nat) : Addr } [Value.bool t2] ∧ True) ∧ Q (x1, t2) h3)
          fun (J1 : PUnit → Hp → Prop) =>
          nilP p0 fun (a3 : Addr) =>
            loadP cB { block := a3.block, off := a3.off + (1 : Nat) : Addr } h1 fun (t3 : Bool) =>
              condP t3 (nilP p0 fun (a4 : Addr) => storeP (cI IntKind.i64) { block := a4.block, off := a4.off + (5 : Nat) : Addr } (0 : Int) h1 fun (h4 : Hp) => J1 PUnit.unit h4) (J1 PUnit.unit h1)))
    fun (J2 : Bool → Hp → Prop) =>
    condP p0.isNone (J2 true h)
      (callP Tryz.prog (65 : Nat)
        [Value.agg
            { toList := [Value.int IntKind.i64 p1.Kind, Value.int IntKind.i64 p1.F_0, Value.int IntKind.i64 p1.F_1, Value.int IntKind.i64 p1.F_2, Value.int IntKind.i64 p1.F_3, Value.int IntKind.i64 p1.F_4, Value.int IntKind.i64 p1.F_5] :
              Array Value }]
        cB h fun (t4 : Bool) (h5 : Hp) => condP (!t4) (J2 true h5) (callP Tryz.prog (66 : Nat) [Value.int IntKind.i64 p1.Kind] cB h5 fun (t5 : Bool) (h6 : Hp) => J2 t5 h6))
theorem e33 (p0 : Option Addr) (p1 : Msg) (h : Hp) (Q : Frame × Bool → Hp → Prop) : fnD a33 Tryz.prog 33 n33 (tupC [cFrame, cB]) [Value.pointer p0, cMsg.enc p1] h Q = F33 p0 p1 h Q := by kernel_rfl
theorem c33 {p0 : Option Addr} {p1 : Msg} {h : Hp} {Q : Frame × Bool → Hp → Prop} (hk : F33 p0 p1 h Q) : callP Tryz.prog 33 [Value.pointer p0, cMsg.enc p1] (tupC [cFrame, cB]) h Q :=
  spec_of (prem_of prog_ok dep_ok eqs_ok rfl (by kernel_rfl)) mix_ok ((e33 p0 p1 h Q).mpr hk)
def a36 : Ann := { prom := 0, refs := [], dyn := 0, bcd := fun s => match s with | _ => none, eqs := memL eqL, cdc := cdcs, res := ress, pure := memL [49], pan := memL [48, 81] }
def n36 : An := (.seq (.reg []) (.seq (.join [(11, false, cB)] 4088 (.reg []) (.cond (.seq (.reg []) .leaf) .leaf)) (.seq (.reg []) (.seq (.reg []) .leaf))))
/-- (*consols/sess.Sess).Cut -/
def F36 (p0 : Option Addr) (h : Hp) (Q : Bool → Hp → Prop) : Prop :=
  joinP (fun (t1 : Bool) (h1 : Hp) => condP t1 (Q false h1) (nilP p0 fun (a1 : Addr) => storeP cB { block := a1.block, off := a1.off + (1 : Nat) : Addr } false h1 fun (h2 : Hp) => Q true h2)) fun (J1 : Bool → Hp → Prop) =>
    condP p0.isNone (J1 true h) (nilP p0 fun (a2 : Addr) => loadP cB { block := a2.block, off := a2.off + (1 : Nat) : Addr } h fun (t2 : Bool) => J1 (!t2) h)
theorem e36 (p0 : Option Addr) (h : Hp) (Q : Bool → Hp → Prop) : fnD a36 Tryz.prog 36 n36 (cB) [Value.pointer p0] h Q = F36 p0 h Q := by kernel_rfl
theorem c36 {p0 : Option Addr} {h : Hp} {Q : Bool → Hp → Prop} (hk : F36 p0 h Q) : callP Tryz.prog 36 [Value.pointer p0] (cB) h Q :=
  spec_of (prem_of prog_ok dep_ok eqs_ok rfl (by kernel_rfl)) mix_ok ((e36 p0 h Q).mpr hk)
def a23 : Ann := { prom := 0, refs := [], dyn := 0, bcd := fun s => match s with | _ => none, eqs := memL eqL, cdc := cdcs, res := ress, pure := memL [49], pan := memL [48, 81] }
def n23 : An := (.seq (.reg []) (.seq (.join [(8, false, cB)] 504 (.reg []) (.cond (.seq (.reg []) .leaf) .leaf)) (.seq (.reg []) .leaf)))
/-- consols/consolsref10.New -/
def F23 (p0 : Int) (h : Hp) (Q : Option Addr → Hp → Prop) : Prop :=
  joinP
    (fun (t1 : Bool) (h1 : Hp) =>
      condP t1 (Q none h1)
        (allocP (Obj.cells { toList := [Value.slice none (0 : Nat) (0 : Nat)] : Array Value } (93 : Nat)) h1 fun (k1 : Nat) (h2 : Hp) =>
          allocP
            (Obj.cells
              {
                toList :=
                  [Value.int IntKind.i64 p0, Value.bool false, Value.int IntKind.i64 (1 : Int), Value.pointer (some { block := k1, off := (0 : Nat) : Addr }), Value.int IntKind.i64 (0 : Int), Value.int IntKind.i64 (0 : Int),
                    Value.int IntKind.i64 (0 : Int)] :
                Array Value }
              (49 : Nat))
            h2 fun (k2 : Nat) (h3 : Hp) => Q (some { block := k2, off := (0 : Nat) : Addr }) h3))
    fun (J1 : Bool → Hp → Prop) => condP (decide (p0 < (1 : Int))) (J1 true h) (J1 (decide (p0 > (1000 : Int))) h)
theorem e23 (p0 : Int) (h : Hp) (Q : Option Addr → Hp → Prop) : fnD a23 Tryz.prog 23 n23 (cP) [Value.int IntKind.i64 p0] h Q = F23 p0 h Q := by kernel_rfl
theorem c23 {p0 : Int} {h : Hp} {Q : Option Addr → Hp → Prop} (hk : F23 p0 h Q) : callP Tryz.prog 23 [Value.int IntKind.i64 p0] (cP) h Q :=
  spec_of (prem_of prog_ok dep_ok eqs_ok rfl (by kernel_rfl)) mix_ok ((e23 p0 h Q).mpr hk)
def a31 : Ann := { prom := 40, refs := [(13, 3), (14, 3), (16, 3), (25, 3), (26, 3), (27, 3), (44, 3), (49, 3), (61, 3), (70, 3), (84, 3)], dyn := 0, bcd := fun s => match s with | 3 => some (cFrame) | 5 => some (cMsg) | _ => none, eqs := memL eqL, cdc := cdcs, res := ress, pure := memL [49], pan := memL [48, 81] }
def n31 : An := (.seq (.reg []) (.seq (.reg []) (.seq (.join [(22, false, cB)] 8323072 (.reg []) (.cond (.seq (.reg []) (.seq (.reg []) .leaf)) .leaf)) (.seq (.seq (.reg []) (.cond (.seq (.reg []) .leaf) .leaf)) (.seq (.reg []) (.seq (.seq (.reg []) (.cond (.seq (.reg []) (.seq (.reg []) .leaf)) .leaf)) (.seq (.join [(68, false, cB)] 590151695170629795840 (.reg [(0, []), (1, []), (2, []), (3, []), (4, []), (5, []), (6, []), (7, []), (8, []), (9, []), (10, []), (11, [])]) (.cond (.seq (.reg []) .leaf) .leaf)) (.seq (.seq (.reg [(0, []), (1, []), (2, []), (3, []), (4, []), (5, []), (6, [])]) (.cond (.seq (.reg []) (.seq (.reg [(0, []), (1, []), (2, []), (3, []), (4, []), (5, [])]) .leaf)) .leaf)) (.seq (.seq (.reg [(0, []), (1, []), (2, []), (4, []), (5, []), (6, []), (3, []), (7, []), (8, [])]) (.cond (.seq (.reg []) .leaf) .leaf)) (.seq (.reg []) (.seq (.reg []) .leaf)))))))))))
/-- (*consols/consolsref10.Sess).Take -/
def F31 (p0 : Option Addr) (p1 : Frame) (h : Hp) (Q : Sl × Msg × Bool × Bool → Hp → Prop) : Prop :=
  joinP
    (fun (t1 : Bool) (h1 : Hp) =>
      condP t1
        (atP (6 : Nat) (0 : Int)
          (callP Tryz.prog (61 : Nat) [Value.pointer p0, Value.int IntKind.i64 p1.Msg_F_0] (tupC [cSl, cB]) h1 fun (z1 : Sl × Bool) (h2 : Hp) =>
            Q (z1.fst, { Kind := (0 : Int), F_0 := (0 : Int), F_1 := (0 : Int), F_2 := (0 : Int), F_3 := (0 : Int), F_4 := (0 : Int), F_5 := (0 : Int) : Msg }, false, z1.snd) h2))
        (nilP p0 fun (a1 : Addr) =>
          loadP cB { block := a1.block, off := a1.off + (1 : Nat) : Addr } h1 fun (t2 : Bool) =>
            condP (!t2) (Q ({ a := none, len := (0 : Nat), cap := (0 : Nat) : Sl }, { Kind := (0 : Int), F_0 := (0 : Int), F_1 := (0 : Int), F_2 := (0 : Int), F_3 := (0 : Int), F_4 := (0 : Int), F_5 := (0 : Int) : Msg }, false, false) h1)
              (nilP p0 fun (a2 : Addr) =>
                storeP (cI IntKind.i64) { block := a2.block, off := a2.off + (5 : Nat) : Addr } (0 : Int) h1 fun (h3 : Hp) =>
                  condP (p1.Seq == (0 : Int))
                    (callP Tryz.prog (62 : Nat)
                      [Value.pointer p0,
                        Value.agg
                          {
                            toList :=
                              [Value.int IntKind.i64 p1.Msg_Kind, Value.int IntKind.i64 p1.Msg_F_0, Value.int IntKind.i64 p1.Msg_F_1, Value.int IntKind.i64 p1.Msg_F_2, Value.int IntKind.i64 p1.Msg_F_3, Value.int IntKind.i64 p1.Msg_F_4,
                                Value.int IntKind.i64 p1.Msg_F_5] :
                            Array Value }]
                      (tupC [cSl, cB]) h3 fun (z2 : Sl × Bool) (h4 : Hp) =>
                      Q (z2.fst, { Kind := (0 : Int), F_0 := (0 : Int), F_1 := (0 : Int), F_2 := (0 : Int), F_3 := (0 : Int), F_4 := (0 : Int), F_5 := (0 : Int) : Msg }, false, z2.snd) h4)
                    (joinP
                      (fun (t3 : Bool) (h5 : Hp) =>
                        condP t3
                          (Q ({ a := none, len := (0 : Nat), cap := (0 : Nat) : Sl }, { Kind := (0 : Int), F_0 := (0 : Int), F_1 := (0 : Int), F_2 := (0 : Int), F_3 := (0 : Int), F_4 := (0 : Int), F_5 := (0 : Int) : Msg }, false, false) h5)
                          (nilP p0 fun (a3 : Addr) =>
                            loadP (cI IntKind.i64) { block := a3.block, off := a3.off + (2 : Nat) : Addr } h5 fun (n1 : Int) =>
                              condP (p1.Seq == n1)
                                (nilP p0 fun (a4 : Addr) =>
                                  loadP (cI IntKind.i64) { block := a4.block, off := a4.off + (2 : Nat) : Addr } h5 fun (n2 : Int) =>
                                    nilP p0 fun (a5 : Addr) =>
                                      storeP (cI IntKind.i64) { block := a5.block, off := a5.off + (2 : Nat) : Addr } (IntKind.i64.wrap (n2 + (1 : Int))) h5 fun (h6 : Hp) =>
                                        Q
                                          ({ a := none, len := (0 : Nat), cap := (0 : Nat) : Sl },
                                            { Kind := p1.Msg_Kind, F_0 := p1.Msg_F_0, F_1 := p1.Msg_F_1, F_2 := p1.Msg_F_2, F_3 := p1.Msg_F_3, F_4 := p1.Msg_F_4, F_5 := p1.Msg_F_5 : Msg }, true, false)
                                          h6)
                                (nilP p0 fun (a6 : Addr) =>
                                  nilP p0 fun (a7 : Addr) =>
                                    loadP (cI IntKind.i64) { block := a6.block, off := a6.off + (6 : Nat) : Addr } h5 fun (n3 : Int) =>
                                      loadP (cI IntKind.i64) { block := a7.block, off := a7.off + (2 : Nat) : Addr } h5 fun (n4 : Int) =>
                                        condP (n3 == n4)
                                          (Q
                                            ({ a := none, len := (0 : Nat), cap := (0 : Nat) : Sl }, { Kind := (0 : Int), F_0 := (0 : Int), F_1 := (0 : Int), F_2 := (0 : Int), F_3 := (0 : Int), F_4 := (0 : Int), F_5 := (0 : Int) : Msg },
                                              false, false)
                                            h5)
                                          (nilP p0 fun (a8 : Addr) =>
                                            loadP (cI IntKind.i64) { block := a8.block, off := a8.off + (2 : Nat) : Addr } h5 fun (n5 : Int) =>
                                              nilP p0 fun (a9 : Addr) =>
                                                storeP (cI IntKind.i64) { block := a9.block, off := a9.off + (6 : Nat) : Addr } n5 h5 fun (h7 : Hp) =>
                                                  nilP p0 fun (a10 : Addr) =>
                                                    storeP (cI IntKind.i64) { block := a10.block, off := a10.off + (4 : Nat) : Addr } (0 : Int) h7 fun (h8 : Hp) =>
                                                      nilP p0 fun (a11 : Addr) =>
                                                        loadP (cI IntKind.i64) { block := a11.block, off := a11.off + (2 : Nat) : Addr } h8 fun (n6 : Int) =>
                                                          allocP (Obj.cells { toList := [Value.int IntKind.i64 n6] : Array Value } (2 : Nat)) h8 fun (k1 : Nat) (h9 : Hp) =>
                                                            callP Tryz.prog (64 : Nat) [Value.int IntKind.i64 (4 : Int), Value.slice (some { block := k1, off := (0 : Nat) : Addr }) (1 : Nat) (1 : Nat)] cFrame h9
                                                              fun (x1 : Frame) (h10 : Hp) =>
                                                              allocP
                                                                (Obj.cells
                                                                  {
                                                                    toList :=
                                                                      [Value.int IntKind.i64 x1.Seq, Value.int IntKind.i64 x1.Msg_Kind, Value.int IntKind.i64 x1.Msg_F_0, Value.int IntKind.i64 x1.Msg_F_1, Value.int IntKind.i64 x1.Msg_F_2,
                                                                        Value.int IntKind.i64 x1.Msg_F_3, Value.int IntKind.i64 x1.Msg_F_4, Value.int IntKind.i64 x1.Msg_F_5] :
                                                                    Array Value }
                                                                  (65 : Nat))
                                                                h10 fun (k2 : Nat) (h11 : Hp) =>
                                                                Q
                                                                  ({ a := some { block := k2, off := (0 : Nat) : Addr }, len := (1 : Nat), cap := (1 : Nat) : Sl },
                                                                    { Kind := (0 : Int), F_0 := (0 : Int), F_1 := (0 : Int), F_2 := (0 : Int), F_3 := (0 : Int), F_4 := (0 : Int), F_5 := (0 : Int) : Msg }, false, false)
                                                                  h11))))
                      fun (J1 : Bool → Hp → Prop) =>
                      callP Tryz.prog (63 : Nat) [Value.int IntKind.i64 p1.Msg_Kind] cB h3 fun (t4 : Bool) (h12 : Hp) =>
                        condP (!t4) (J1 true h12) (nilP p0 fun (a12 : Addr) => loadP (cI IntKind.i64) { block := a12.block, off := a12.off + (2 : Nat) : Addr } h12 fun (n7 : Int) => J1 (decide (p1.Seq < n7)) h12)))))
    fun (J2 : Bool → Hp → Prop) => condP (p1.Seq == (0 : Int)) (J2 (p1.Msg_Kind == (1 : Int)) h) (J2 false h)
theorem e31 (p0 : Option Addr) (p1 : Frame) (h : Hp) (Q : Sl × Msg × Bool × Bool → Hp → Prop) : fnD a31 Tryz.prog 31 n31 (tupC [cSl, cMsg, cB, cB]) [Value.pointer p0, cFrame.enc p1] h Q = F31 p0 p1 h Q := by kernel_rfl
theorem c31 {p0 : Option Addr} {p1 : Frame} {h : Hp} {Q : Sl × Msg × Bool × Bool → Hp → Prop} (hk : F31 p0 p1 h Q) : callP Tryz.prog 31 [Value.pointer p0, cFrame.enc p1] (tupC [cSl, cMsg, cB, cB]) h Q :=
  spec_of (prem_of prog_ok dep_ok eqs_ok rfl (by kernel_rfl)) mix_ok ((e31 p0 p1 h Q).mpr hk)
def a34 : Ann := { prom := 88, refs := [(11, 3)], dyn := 0, bcd := fun s => match s with | 3 => some (cMsg) | 4 => some (cFrame) | 6 => some (cFrame) | _ => none, eqs := memL eqL, cdc := cdcs, res := ress, pure := memL [49], pan := memL [48, 81] }
def n34 : An := (.seq (.reg []) (.seq (.join [(14, false, cB)] 32640 (.reg []) (.cond (.seq (.reg []) .leaf) .leaf)) (.seq (.reg [(0, []), (1, []), (2, []), (4, []), (6, []), (3, []), (5, []), (7, [])]) (.join [] 532676608 (.seq (.reg []) (.cond (.reg []) .leaf)) (.seq (.reg [(0, []), (1, []), (2, []), (3, []), (5, []), (4, []), (6, [])]) .leaf)))))
/-- (*consols/consolsref10.Sess).Send -/
def F34 (p0 : Option Addr) (p1 : Msg) (h : Hp) (Q : Frame × Bool → Hp → Prop) : Prop :=
  joinP
    (fun (t1 : Bool) (h1 : Hp) =>
      condP t1 (Q ({ Seq := (0 : Int), Msg_Kind := (0 : Int), Msg_F_0 := (0 : Int), Msg_F_1 := (0 : Int), Msg_F_2 := (0 : Int), Msg_F_3 := (0 : Int), Msg_F_4 := (0 : Int), Msg_F_5 := (0 : Int) : Frame }, false) h1)
        (nilP p0 fun (a1 : Addr) =>
          loadP cP { block := a1.block, off := a1.off + (3 : Nat) : Addr } h1 fun (p1_1 : Option Addr) =>
            callP Tryz.prog (70 : Nat)
              [Value.pointer p1_1,
                Value.agg
                  {
                    toList :=
                      [Value.int IntKind.i64 p1.Kind, Value.int IntKind.i64 p1.F_0, Value.int IntKind.i64 p1.F_1, Value.int IntKind.i64 p1.F_2, Value.int IntKind.i64 p1.F_3, Value.int IntKind.i64 p1.F_4, Value.int IntKind.i64 p1.F_5] :
                    Array Value }]
              cFrame h1 fun (x1 : Frame) (h2 : Hp) =>
              joinP (fun (u1 : PUnit) (h3 : Hp) => nilP p0 fun (a2 : Addr) => loadP cB { block := a2.block, off := a2.off + (1 : Nat) : Addr } h3 fun (t2 : Bool) => Q (x1, t2) h3) fun (J1 : PUnit → Hp → Prop) =>
                nilP p0 fun (a3 : Addr) =>
                  loadP cB { block := a3.block, off := a3.off + (1 : Nat) : Addr } h2 fun (t3 : Bool) =>
                    condP t3 (nilP p0 fun (a4 : Addr) => storeP (cI IntKind.i64) { block := a4.block, off := a4.off + (4 : Nat) : Addr } (0 : Int) h2 fun (h4 : Hp) => J1 PUnit.unit h4) (J1 PUnit.unit h2)))
    fun (J2 : Bool → Hp → Prop) =>
    callP Tryz.prog (68 : Nat)
      [Value.agg
          { toList := [Value.int IntKind.i64 p1.Kind, Value.int IntKind.i64 p1.F_0, Value.int IntKind.i64 p1.F_1, Value.int IntKind.i64 p1.F_2, Value.int IntKind.i64 p1.F_3, Value.int IntKind.i64 p1.F_4, Value.int IntKind.i64 p1.F_5] :
            Array Value }]
      cB h fun (t4 : Bool) (h5 : Hp) => condP (!t4) (J2 true h5) (callP Tryz.prog (69 : Nat) [Value.int IntKind.i64 p1.Kind] cB h5 fun (t5 : Bool) (h6 : Hp) => J2 t5 h6)
theorem e34 (p0 : Option Addr) (p1 : Msg) (h : Hp) (Q : Frame × Bool → Hp → Prop) : fnD a34 Tryz.prog 34 n34 (tupC [cFrame, cB]) [Value.pointer p0, cMsg.enc p1] h Q = F34 p0 p1 h Q := by kernel_rfl
theorem c34 {p0 : Option Addr} {p1 : Msg} {h : Hp} {Q : Frame × Bool → Hp → Prop} (hk : F34 p0 p1 h Q) : callP Tryz.prog 34 [Value.pointer p0, cMsg.enc p1] (tupC [cFrame, cB]) h Q :=
  spec_of (prem_of prog_ok dep_ok eqs_ok rfl (by kernel_rfl)) mix_ok ((e34 p0 p1 h Q).mpr hk)
def a12 : Ann := { prom := 0, refs := [], dyn := 0, bcd := fun s => match s with | _ => none, eqs := memL eqL, cdc := cdcs, res := ress, pure := memL [49], pan := memL [48, 81] }
def n12 : An := (.seq (.reg []) (.seq (.reg []) (.seq (.reg []) (.seq (.reg []) .leaf))))
/-- (*consols/consolsref10.Sess).Cut -/
def F12 (p0 : Option Addr) (h : Hp) (Q : Bool → Hp → Prop) : Prop :=
  nilP p0 fun (a1 : Addr) => loadP cB { block := a1.block, off := a1.off + (1 : Nat) : Addr } h fun (t1 : Bool) => nilP p0 fun (a2 : Addr) => storeP cB { block := a2.block, off := a2.off + (1 : Nat) : Addr } false h fun (h1 : Hp) => Q t1 h1
theorem e12 (p0 : Option Addr) (h : Hp) (Q : Bool → Hp → Prop) : fnD a12 Tryz.prog 12 n12 (cB) [Value.pointer p0] h Q = F12 p0 h Q := by kernel_rfl
theorem c12 {p0 : Option Addr} {h : Hp} {Q : Bool → Hp → Prop} (hk : F12 p0 h Q) : callP Tryz.prog 12 [Value.pointer p0] (cB) h Q :=
  spec_of (prem_of prog_ok dep_ok eqs_ok rfl (by kernel_rfl)) mix_ok ((e12 p0 h Q).mpr hk)
def a40 : Ann := { prom := 0, refs := [], dyn := 0, bcd := fun s => match s with | _ => none, eqs := memL eqL, cdc := cdcs, res := ress, pure := memL [49], pan := memL [48, 81] }
def n40 : An := (.seq (.reg []) (.seq (.seq (.reg []) (.cond (.seq (.reg []) .leaf) .leaf)) (.seq (.reg []) (.seq (.reg []) (.seq (.block (.seq (.reg [(0, []), (1, []), (2, []), (4, []), (5, []), (6, []), (3, []), (7, []), (8, []), (9, []), (10, [])]) (.cond (.seq (.reg []) (.seq (.reg []) .leaf)) (.seq (.reg [(0, []), (1, []), (2, []), (4, []), (5, []), (6, []), (3, []), (7, []), (8, []), (9, []), (10, [])]) (.cond (.seq (.reg []) (.seq (.reg []) .leaf)) (.seq (.reg [(0, []), (1, []), (2, []), (4, []), (5, []), (6, []), (3, []), (7, []), (8, []), (9, [])]) (.cond (.seq (.reg []) (.seq (.reg []) .leaf)) .leaf))))))) (.seq (.reg []) .leaf))))))
/-- (*consols/consolsref10.Sess).Tick -/
def F40 (p0 : Option Addr) (h : Hp) (Q : Sl × Bool → Hp → Prop) : Prop :=
  nilP p0 fun (a1 : Addr) =>
    loadP cB { block := a1.block, off := a1.off + (1 : Nat) : Addr } h fun (t1 : Bool) =>
      condP (!t1) (Q ({ a := none, len := (0 : Nat), cap := (0 : Nat) : Sl }, false) h)
        (nilP p0 fun (a2 : Addr) =>
          loadP (cI IntKind.i64) { block := a2.block, off := a2.off + (4 : Nat) : Addr } h fun (n1 : Int) =>
            nilP p0 fun (a3 : Addr) =>
              storeP (cI IntKind.i64) { block := a3.block, off := a3.off + (4 : Nat) : Addr } (IntKind.i64.wrap (n1 + (1 : Int))) h fun (h1 : Hp) =>
                nilP p0 fun (a4 : Addr) =>
                  loadP (cI IntKind.i64) { block := a4.block, off := a4.off + (5 : Nat) : Addr } h1 fun (n2 : Int) =>
                    nilP p0 fun (a5 : Addr) =>
                      storeP (cI IntKind.i64) { block := a5.block, off := a5.off + (5 : Nat) : Addr } (IntKind.i64.wrap (n2 + (1 : Int))) h1 fun (h2 : Hp) =>
                        nilP p0 fun (a6 : Addr) =>
                          nilP p0 fun (a7 : Addr) =>
                            loadP (cI IntKind.i64) { block := a6.block, off := a6.off + (5 : Nat) : Addr } h2 fun (n3 : Int) =>
                              loadP (cI IntKind.i64) (a7.add (0 : Nat)) h2 fun (n4 : Int) =>
                                condP (n3 == IntKind.i64.wrap ((3 : Int) * n4))
                                  (nilP p0 fun (a8 : Addr) =>
                                    storeP cB { block := a8.block, off := a8.off + (1 : Nat) : Addr } false h2 fun (h3 : Hp) =>
                                      callP Tryz.prog (64 : Nat) [Value.int IntKind.i64 (5 : Int), Value.slice none (0 : Nat) (0 : Nat)] cFrame h3 fun (x1 : Frame) (h4 : Hp) =>
                                        allocP
                                          (Obj.cells
                                            {
                                              toList :=
                                                [Value.int IntKind.i64 x1.Seq, Value.int IntKind.i64 x1.Msg_Kind, Value.int IntKind.i64 x1.Msg_F_0, Value.int IntKind.i64 x1.Msg_F_1, Value.int IntKind.i64 x1.Msg_F_2,
                                                  Value.int IntKind.i64 x1.Msg_F_3, Value.int IntKind.i64 x1.Msg_F_4, Value.int IntKind.i64 x1.Msg_F_5] :
                                              Array Value }
                                            (65 : Nat))
                                          h4 fun (k1 : Nat) (h5 : Hp) => Q ({ a := some { block := k1, off := (0 : Nat) : Addr }, len := (1 : Nat), cap := (1 : Nat) : Sl }, true) h5)
                                  (nilP p0 fun (a9 : Addr) =>
                                    nilP p0 fun (a10 : Addr) =>
                                      loadP (cI IntKind.i64) { block := a9.block, off := a9.off + (5 : Nat) : Addr } h2 fun (n5 : Int) =>
                                        loadP (cI IntKind.i64) (a10.add (0 : Nat)) h2 fun (n6 : Int) =>
                                          condP (n5 == IntKind.i64.wrap ((2 : Int) * n6))
                                            (nilP p0 fun (a11 : Addr) =>
                                              storeP (cI IntKind.i64) { block := a11.block, off := a11.off + (4 : Nat) : Addr } (0 : Int) h2 fun (h6 : Hp) =>
                                                callP Tryz.prog (64 : Nat) [Value.int IntKind.i64 (3 : Int), Value.slice none (0 : Nat) (0 : Nat)] cFrame h6 fun (x2 : Frame) (h7 : Hp) =>
                                                  allocP
                                                    (Obj.cells
                                                      {
                                                        toList :=
                                                          [Value.int IntKind.i64 x2.Seq, Value.int IntKind.i64 x2.Msg_Kind, Value.int IntKind.i64 x2.Msg_F_0, Value.int IntKind.i64 x2.Msg_F_1, Value.int IntKind.i64 x2.Msg_F_2,
                                                            Value.int IntKind.i64 x2.Msg_F_3, Value.int IntKind.i64 x2.Msg_F_4, Value.int IntKind.i64 x2.Msg_F_5] :
                                                        Array Value }
                                                      (65 : Nat))
                                                    h7 fun (k2 : Nat) (h8 : Hp) => Q ({ a := some { block := k2, off := (0 : Nat) : Addr }, len := (1 : Nat), cap := (1 : Nat) : Sl }, false) h8)
                                            (nilP p0 fun (a12 : Addr) =>
                                              nilP p0 fun (a13 : Addr) =>
                                                loadP (cI IntKind.i64) { block := a12.block, off := a12.off + (4 : Nat) : Addr } h2 fun (n7 : Int) =>
                                                  loadP (cI IntKind.i64) (a13.add (0 : Nat)) h2 fun (n8 : Int) =>
                                                    condP (decide (n7 ≥ n8))
                                                      (nilP p0 fun (a14 : Addr) =>
                                                        storeP (cI IntKind.i64) { block := a14.block, off := a14.off + (4 : Nat) : Addr } (0 : Int) h2 fun (h9 : Hp) =>
                                                          callP Tryz.prog (64 : Nat) [Value.int IntKind.i64 (2 : Int), Value.slice none (0 : Nat) (0 : Nat)] cFrame h9 fun (x3 : Frame) (h10 : Hp) =>
                                                            allocP
                                                              (Obj.cells
                                                                {
                                                                  toList :=
                                                                    [Value.int IntKind.i64 x3.Seq, Value.int IntKind.i64 x3.Msg_Kind, Value.int IntKind.i64 x3.Msg_F_0, Value.int IntKind.i64 x3.Msg_F_1, Value.int IntKind.i64 x3.Msg_F_2,
                                                                      Value.int IntKind.i64 x3.Msg_F_3, Value.int IntKind.i64 x3.Msg_F_4, Value.int IntKind.i64 x3.Msg_F_5] :
                                                                  Array Value }
                                                                (65 : Nat))
                                                              h10 fun (k3 : Nat) (h11 : Hp) => Q ({ a := some { block := k3, off := (0 : Nat) : Addr }, len := (1 : Nat), cap := (1 : Nat) : Sl }, false) h11)
                                                      (Q ({ a := none, len := (0 : Nat), cap := (0 : Nat) : Sl }, false) h2))))
theorem e40 (p0 : Option Addr) (h : Hp) (Q : Sl × Bool → Hp → Prop) : fnD a40 Tryz.prog 40 n40 (tupC [cSl, cB]) [Value.pointer p0] h Q = F40 p0 h Q := by kernel_rfl
theorem c40 {p0 : Option Addr} {h : Hp} {Q : Sl × Bool → Hp → Prop} (hk : F40 p0 h Q) : callP Tryz.prog 40 [Value.pointer p0] (tupC [cSl, cB]) h Q :=
  spec_of (prem_of prog_ok dep_ok eqs_ok rfl (by kernel_rfl)) mix_ok ((e40 p0 h Q).mpr hk)
def a51 : Ann := { prom := 0, refs := [], dyn := 0, bcd := fun s => match s with | _ => none, eqs := memL eqL, cdc := cdcs, res := ress, pure := memL [49], pan := memL [48, 81] }
def n51 : An := (.seq (.reg []) (.seq (.reg []) (.seq (.reg []) (.seq (.seq (.reg []) (.cond (.seq (.reg []) .leaf) .leaf)) (.seq (.reg []) (.seq (.reg []) .leaf))))))
/-- (*consols/sess.Sess).logs -/
def F51 (p0 : Option Addr) (p1 : Int) (h : Hp) (Q : Sl × Bool → Hp → Prop) : Prop :=
  nilP p0 fun (a1 : Addr) =>
    loadP cP { block := a1.block, off := a1.off + (3 : Nat) : Addr } h fun (p1_1 : Option Addr) =>
      callP Tryz.prog (82 : Nat) [Value.pointer p1_1, Value.int IntKind.i64 p1] (tupC [cSl, cB]) h fun (z1 : Sl × Bool) (h1 : Hp) =>
        nilP p0 fun (a2 : Addr) =>
          storeP cB { block := a2.block, off := a2.off + (1 : Nat) : Addr } z1.snd h1 fun (h2 : Hp) =>
            condP (!z1.snd) (Q ({ a := none, len := (0 : Nat), cap := (0 : Nat) : Sl }, false) h2)
              (nilP p0 fun (a3 : Addr) =>
                storeP (cI IntKind.i64) { block := a3.block, off := a3.off + (6 : Nat) : Addr } (0 : Int) h2 fun (h3 : Hp) =>
                  nilP p0 fun (a4 : Addr) =>
                    storeP (cI IntKind.i64) { block := a4.block, off := a4.off + (4 : Nat) : Addr } (0 : Int) h3 fun (h4 : Hp) =>
                      nilP p0 fun (a5 : Addr) =>
                        loadP (cI IntKind.i64) { block := a5.block, off := a5.off + (2 : Nat) : Addr } h4 fun (n1 : Int) =>
                          callP Tryz.prog (74 : Nat) [Value.int IntKind.i64 (1 : Int), Value.int IntKind.i64 n1] cFrame h4 fun (x1 : Frame) (h5 : Hp) =>
                            allocP
                              (Obj.cells
                                {
                                  toList :=
                                    [Value.int IntKind.i64 x1.Seq, Value.int IntKind.i64 x1.Msg_Kind, Value.int IntKind.i64 x1.Msg_F_0, Value.int IntKind.i64 x1.Msg_F_1, Value.int IntKind.i64 x1.Msg_F_2, Value.int IntKind.i64 x1.Msg_F_3,
                                      Value.int IntKind.i64 x1.Msg_F_4, Value.int IntKind.i64 x1.Msg_F_5] :
                                  Array Value }
                                (65 : Nat))
                              h5 fun (k1 : Nat) (h6 : Hp) =>
                              appendP cFrame (65 : Nat) (64 : Nat) (some { block := k1, off := (0 : Nat) : Addr }) (1 : Nat) (1 : Nat) z1.fst.a z1.fst.len h6 fun (p2 : Option Addr) (k2 k3 : Nat) (h7 : Hp) =>
                                Q ({ a := p2, len := k2, cap := k3 : Sl }, true) h7)
theorem e51 (p0 : Option Addr) (p1 : Int) (h : Hp) (Q : Sl × Bool → Hp → Prop) : fnD a51 Tryz.prog 51 n51 (tupC [cSl, cB]) [Value.pointer p0, Value.int IntKind.i64 p1] h Q = F51 p0 p1 h Q := by kernel_rfl
theorem c51 {p0 : Option Addr} {p1 : Int} {h : Hp} {Q : Sl × Bool → Hp → Prop} (hk : F51 p0 p1 h Q) : callP Tryz.prog 51 [Value.pointer p0, Value.int IntKind.i64 p1] (tupC [cSl, cB]) h Q :=
  spec_of (prem_of prog_ok dep_ok eqs_ok rfl (by kernel_rfl)) mix_ok ((e51 p0 p1 h Q).mpr hk)
def a52 : Ann := { prom := 40, refs := [(8, 3), (12, 3), (17, 3), (18, 3), (24, 3), (38, 3), (41, 3)], dyn := 0, bcd := fun s => match s with | 3 => some (cFrame) | 5 => some (cMsg) | _ => none, eqs := memL eqL, cdc := cdcs, res := ress, pure := memL [49], pan := memL [48, 81] }
def n52 : An := (.seq (.reg []) (.seq (.block (.seq (.reg []) (.cond (.seq (.reg []) .leaf) (.seq (.reg []) (.cond (.seq (.reg []) .leaf) (.seq (.reg [(0, []), (1, []), (2, []), (3, []), (4, []), (5, []), (6, []), (7, [])]) (.cond (.seq (.reg []) (.seq (.reg [(0, []), (1, []), (2, []), (3, []), (4, [])]) .leaf)) (.join [(40, false, cB)] 576459652791795712 (.reg [(0, []), (1, []), (2, []), (3, []), (4, []), (5, []), (6, []), (7, []), (8, []), (9, []), (10, []), (12, []), (13, []), (14, []), (11, []), (15, []), (16, []), (17, []), (18, [])]) (.cond (.seq (.reg []) (.seq (.reg []) .leaf)) .leaf))))))))) (.seq (.reg []) .leaf)))
/-- (*consols/sess.Sess).takes -/
def F52 (p0 : Option Addr) (p1 : Frame) (h : Hp) (Q : Sl × Msg × Bool → Hp → Prop) : Prop :=
  condP (p1.Seq == (0 : Int))
    (callP Tryz.prog (83 : Nat)
      [Value.pointer p0,
        Value.agg
          {
            toList :=
              [Value.int IntKind.i64 p1.Msg_Kind, Value.int IntKind.i64 p1.Msg_F_0, Value.int IntKind.i64 p1.Msg_F_1, Value.int IntKind.i64 p1.Msg_F_2, Value.int IntKind.i64 p1.Msg_F_3, Value.int IntKind.i64 p1.Msg_F_4,
                Value.int IntKind.i64 p1.Msg_F_5] :
            Array Value }]
      cSl h fun (s1 : Sl) (h1 : Hp) => Q (s1, { Kind := (0 : Int), F_0 := (0 : Int), F_1 := (0 : Int), F_2 := (0 : Int), F_3 := (0 : Int), F_4 := (0 : Int), F_5 := (0 : Int) : Msg }, false) h1)
    (callP Tryz.prog (84 : Nat) [Value.int IntKind.i64 p1.Msg_Kind] cB h fun (t1 : Bool) (h2 : Hp) =>
      condP (!t1) (Q ({ a := none, len := (0 : Nat), cap := (0 : Nat) : Sl }, { Kind := (0 : Int), F_0 := (0 : Int), F_1 := (0 : Int), F_2 := (0 : Int), F_3 := (0 : Int), F_4 := (0 : Int), F_5 := (0 : Int) : Msg }, false) h2)
        (nilP p0 fun (a1 : Addr) =>
          loadP (cI IntKind.i64) { block := a1.block, off := a1.off + (2 : Nat) : Addr } h2 fun (n1 : Int) =>
            condP (p1.Seq == n1)
              (nilP p0 fun (a2 : Addr) =>
                loadP (cI IntKind.i64) { block := a2.block, off := a2.off + (2 : Nat) : Addr } h2 fun (n2 : Int) =>
                  nilP p0 fun (a3 : Addr) =>
                    storeP (cI IntKind.i64) { block := a3.block, off := a3.off + (2 : Nat) : Addr } (IntKind.i64.wrap (n2 + (1 : Int))) h2 fun (h3 : Hp) =>
                      Q ({ a := none, len := (0 : Nat), cap := (0 : Nat) : Sl }, { Kind := p1.Msg_Kind, F_0 := p1.Msg_F_0, F_1 := p1.Msg_F_1, F_2 := p1.Msg_F_2, F_3 := p1.Msg_F_3, F_4 := p1.Msg_F_4, F_5 := p1.Msg_F_5 : Msg }, true) h3)
              (joinP
                (fun (t2 : Bool) (h4 : Hp) =>
                  condP t2
                    (nilP p0 fun (a4 : Addr) =>
                      loadP (cI IntKind.i64) { block := a4.block, off := a4.off + (2 : Nat) : Addr } h4 fun (n3 : Int) =>
                        nilP p0 fun (a5 : Addr) =>
                          storeP (cI IntKind.i64) { block := a5.block, off := a5.off + (4 : Nat) : Addr } n3 h4 fun (h5 : Hp) =>
                            nilP p0 fun (a6 : Addr) =>
                              loadP (cI IntKind.i64) { block := a6.block, off := a6.off + (2 : Nat) : Addr } h5 fun (n4 : Int) =>
                                callP Tryz.prog (74 : Nat) [Value.int IntKind.i64 (4 : Int), Value.int IntKind.i64 n4] cFrame h5 fun (x1 : Frame) (h6 : Hp) =>
                                  allocP
                                    (Obj.cells
                                      {
                                        toList :=
                                          [Value.int IntKind.i64 x1.Seq, Value.int IntKind.i64 x1.Msg_Kind, Value.int IntKind.i64 x1.Msg_F_0, Value.int IntKind.i64 x1.Msg_F_1, Value.int IntKind.i64 x1.Msg_F_2,
                                            Value.int IntKind.i64 x1.Msg_F_3, Value.int IntKind.i64 x1.Msg_F_4, Value.int IntKind.i64 x1.Msg_F_5] :
                                        Array Value }
                                      (65 : Nat))
                                    h6 fun (k1 : Nat) (h7 : Hp) =>
                                    Q
                                      ({ a := some { block := k1, off := (0 : Nat) : Addr }, len := (1 : Nat), cap := (1 : Nat) : Sl },
                                        { Kind := (0 : Int), F_0 := (0 : Int), F_1 := (0 : Int), F_2 := (0 : Int), F_3 := (0 : Int), F_4 := (0 : Int), F_5 := (0 : Int) : Msg }, false)
                                      h7)
                    (Q ({ a := none, len := (0 : Nat), cap := (0 : Nat) : Sl }, { Kind := (0 : Int), F_0 := (0 : Int), F_1 := (0 : Int), F_2 := (0 : Int), F_3 := (0 : Int), F_4 := (0 : Int), F_5 := (0 : Int) : Msg }, false) h4))
                fun (J1 : Bool → Hp → Prop) =>
                nilP p0 fun (a7 : Addr) =>
                  loadP (cI IntKind.i64) { block := a7.block, off := a7.off + (2 : Nat) : Addr } h2 fun (n5 : Int) =>
                    condP (decide (p1.Seq > n5))
                      (nilP p0 fun (a8 : Addr) =>
                        nilP p0 fun (a9 : Addr) =>
                          loadP (cI IntKind.i64) { block := a8.block, off := a8.off + (4 : Nat) : Addr } h2 fun (n6 : Int) =>
                            loadP (cI IntKind.i64) { block := a9.block, off := a9.off + (2 : Nat) : Addr } h2 fun (n7 : Int) => J1 (n6 != n7) h2)
                      (J1 false h2))))
theorem e52 (p0 : Option Addr) (p1 : Frame) (h : Hp) (Q : Sl × Msg × Bool → Hp → Prop) : fnD a52 Tryz.prog 52 n52 (tupC [cSl, cMsg, cB]) [Value.pointer p0, cFrame.enc p1] h Q = F52 p0 p1 h Q := by kernel_rfl
theorem c52 {p0 : Option Addr} {p1 : Frame} {h : Hp} {Q : Sl × Msg × Bool → Hp → Prop} (hk : F52 p0 p1 h Q) : callP Tryz.prog 52 [Value.pointer p0, cFrame.enc p1] (tupC [cSl, cMsg, cB]) h Q :=
  spec_of (prem_of prog_ok dep_ok eqs_ok rfl (by kernel_rfl)) mix_ok ((e52 p0 p1 h Q).mpr hk)
def a74 : Ann := { prom := 48, refs := [(9, 5), (10, 5)], dyn := 0, bcd := fun s => match s with | 4 => some (cFrame) | 5 => some (cMsg) | _ => none, eqs := memL eqL, cdc := cdcs, res := ress, pure := memL [49], pan := memL [48, 81] }
def n74 : An := (.seq (.reg []) (.seq (.reg []) (.seq (.reg []) (.seq (.reg []) .leaf))))
/-- consols/sess.own -/
def F74 (p0 : Int) (p1 : Int) (h : Hp) (Q : Frame → Hp → Prop) : Prop :=
  atP (6 : Nat) (0 : Int) (Q { Seq := (0 : Int), Msg_Kind := p0, Msg_F_0 := p1, Msg_F_1 := (0 : Int), Msg_F_2 := (0 : Int), Msg_F_3 := (0 : Int), Msg_F_4 := (0 : Int), Msg_F_5 := (0 : Int) : Frame } h)
theorem e74 (p0 : Int) (p1 : Int) (h : Hp) (Q : Frame → Hp → Prop) : fnD a74 Tryz.prog 74 n74 (cFrame) [Value.int IntKind.i64 p0, Value.int IntKind.i64 p1] h Q = F74 p0 p1 h Q := by kernel_rfl
theorem c74 {p0 : Int} {p1 : Int} {h : Hp} {Q : Frame → Hp → Prop} (hk : F74 p0 p1 h Q) : callP Tryz.prog 74 [Value.int IntKind.i64 p0, Value.int IntKind.i64 p1] (cFrame) h Q :=
  spec_of (prem_of prog_ok dep_ok eqs_ok rfl (by kernel_rfl)) mix_ok ((e74 p0 p1 h Q).mpr hk)
def a47 : Ann := { prom := 8, refs := [], dyn := 0, bcd := fun s => match s with | 3 => some (cMsgnone) | _ => none, eqs := memL eqL, cdc := cdcs, res := ress, pure := memL [49], pan := memL [48, 81] }
def n47 : An := (.seq .regX (.cond (.join [] 65304 (.seq .regX (.seq (.reg []) (.cond .regX .leaf))) (.reg [])) .leaf))
/-- consols/msg.Read$1 -/
def F47_0 (p0 : Addr) (p1 : Addr) (h : Hp) (K : Hp → Prop) : Prop :=
 K h
theorem e47_0 (p0 : Addr) (p1 : Addr) (h : Hp) (K : Hp → Prop) : fnRec a47 Tryz.prog 47 n47 [Value.pointer (some p0), Value.pointer (some p1)] (none) h K = F47_0 p0 p1 h K := by kernel_rfl
theorem c47_0 {p0 : Addr} {p1 : Addr} {h : Hp} {K : Hp → Prop} (hk : F47_0 p0 p1 h K) : deferP Tryz.prog 47 [Value.pointer (some p0), Value.pointer (some p1)] (none) h K :=
  specRec_of (prem_of prog_ok dep_ok eqs_ok rfl (by kernel_rfl)) mix_ok ((e47_0 p0 p1 h K).mpr hk)
/-- consols/msg.Read$1 -/
def F47_1 (p0 : Addr) (p1 : Addr) (h : Hp) (K : Hp → Prop) : Prop :=
  joinP
    (fun (u1 : PUnit) (h1 : Hp) =>
      storeP cFrame p0 { Seq := (0 : Int), Msg_Kind := (0 : Int), Msg_F_0 := (0 : Int), Msg_F_1 := (0 : Int), Msg_F_2 := (0 : Int), Msg_F_3 := (0 : Int), Msg_F_4 := (0 : Int), Msg_F_5 := (0 : Int) : Frame } h1 fun (h2 : Hp) =>
        storeP (cI IntKind.i64) p1 (2 : Int) h2 fun (h3 : Hp) => K h3)
    fun (J1 : PUnit → Hp → Prop) => J1 PUnit.unit h
theorem e47_1 (p0 : Addr) (p1 : Addr) (h : Hp) (K : Hp → Prop) : fnRec a47 Tryz.prog 47 n47 [Value.pointer (some p0), Value.pointer (some p1)] (some (.iface 100 (.agg #[]))) h K = F47_1 p0 p1 h K := by kernel_rfl
theorem c47_1 {p0 : Addr} {p1 : Addr} {h : Hp} {K : Hp → Prop} (hk : F47_1 p0 p1 h K) : deferP Tryz.prog 47 [Value.pointer (some p0), Value.pointer (some p1)] (some (.iface 100 (.agg #[]))) h K :=
  specRec_of (prem_of prog_ok dep_ok eqs_ok rfl (by kernel_rfl)) mix_ok ((e47_1 p0 p1 h K).mpr hk)
def a48 : Ann := { prom := 0, refs := [], dyn := 0, bcd := fun s => match s with | _ => none, eqs := memL eqL, cdc := cdcs, res := ress, pure := memL [49], pan := memL [48, 81] }
def n48 : An := (.seq (.reg []) (.seq (.reg []) (.join [] 122880 (.seq (.reg []) (.cond .regX .leaf)) (.seq (.reg [(0, []), (1, []), (2, []), (3, []), (4, []), (5, [])]) .leaf))))
/-- consols/msg.must -/
def F48 (p0 : Sl) (h : Hp) (Q : Int × Sl → Hp → Prop) (S : Value → Hp → Prop) : Prop :=
  callP Tryz.prog (79 : Nat) [Value.slice p0.a p0.len p0.cap] (tupC [cI IntKind.i64, cI IntKind.i64, cB]) h fun (z1 : Int × Int × Bool) (h1 : Hp) =>
    joinP (fun (u1 : PUnit) (h2 : Hp) => cutP p0.len p0.cap (some z1.snd.fst) none fun (k1 k2 : Nat) => Q (z1.fst, { a := cutA p0.a k1 p0.cap (1 : Nat), len := k2 - k1, cap := p0.cap - k1 : Sl }) h2) fun (J1 : PUnit → Hp → Prop) =>
      condP (!z1.snd.snd) (S (Value.iface (100 : Nat) (Value.agg { toList := [] : Array Value })) h1) (J1 PUnit.unit h1)
theorem e48 (p0 : Sl) (h : Hp) (Q : Int × Sl → Hp → Prop) (S : Value → Hp → Prop) : fnX a48 Tryz.prog 48 n48 (tupC [cI .i64, cSl]) [Value.slice p0.a p0.len p0.cap] h Q S = F48 p0 h Q S := by kernel_rfl
theorem c48 {p0 : Sl} {h : Hp} {Q : Int × Sl → Hp → Prop} {S : Value → Hp → Prop} (hk : F48 p0 h Q S) : callXP Tryz.prog 48 [Value.slice p0.a p0.len p0.cap] (tupC [cI .i64, cSl]) h Q S :=
  specX_of (prem_of prog_ok dep_ok eqs_ok rfl (by kernel_rfl)) mix_ok ((e48 p0 h Q S).mpr hk)
def a61 : Ann := { prom := 0, refs := [], dyn := 0, bcd := fun s => match s with | _ => none, eqs := memL eqL, cdc := cdcs, res := ress, pure := memL [49], pan := memL [48, 81] }
def n61 : An := (.seq (.reg []) (.seq (.reg []) (.seq (.seq (.reg []) (.cond (.seq (.reg []) (.seq (.reg []) (.seq (.reg []) .leaf))) .leaf)) (.seq (.reg []) (.seq (.reg []) .leaf)))))
/-- (*consols/consolsref10.Sess).logon -/
def F61 (p0 : Option Addr) (p1 : Int) (h : Hp) (Q : Sl × Bool → Hp → Prop) : Prop :=
  nilP p0 fun (a1 : Addr) =>
    loadP cP { block := a1.block, off := a1.off + (3 : Nat) : Addr } h fun (p1_1 : Option Addr) =>
      callP Tryz.prog (89 : Nat) [Value.pointer p1_1, Value.int IntKind.i64 p1] (tupC [cSl, cB]) h fun (z1 : Sl × Bool) (h1 : Hp) =>
        condP (!z1.snd)
          (nilP p0 fun (a2 : Addr) =>
            loadP cB { block := a2.block, off := a2.off + (1 : Nat) : Addr } h1 fun (t1 : Bool) =>
              nilP p0 fun (a3 : Addr) => storeP cB { block := a3.block, off := a3.off + (1 : Nat) : Addr } false h1 fun (h2 : Hp) => Q ({ a := none, len := (0 : Nat), cap := (0 : Nat) : Sl }, t1) h2)
          (nilP p0 fun (a4 : Addr) =>
            storeP cB { block := a4.block, off := a4.off + (1 : Nat) : Addr } true h1 fun (h3 : Hp) =>
              nilP p0 fun (a5 : Addr) =>
                storeP (cI IntKind.i64) { block := a5.block, off := a5.off + (4 : Nat) : Addr } (0 : Int) h3 fun (h4 : Hp) =>
                  nilP p0 fun (a6 : Addr) =>
                    storeP (cI IntKind.i64) { block := a6.block, off := a6.off + (5 : Nat) : Addr } (0 : Int) h4 fun (h5 : Hp) =>
                      nilP p0 fun (a7 : Addr) =>
                        storeP (cI IntKind.i64) { block := a7.block, off := a7.off + (6 : Nat) : Addr } (0 : Int) h5 fun (h6 : Hp) =>
                          nilP p0 fun (a8 : Addr) =>
                            loadP (cI IntKind.i64) { block := a8.block, off := a8.off + (2 : Nat) : Addr } h6 fun (n1 : Int) =>
                              allocP (Obj.cells { toList := [Value.int IntKind.i64 n1] : Array Value } (2 : Nat)) h6 fun (k1 : Nat) (h7 : Hp) =>
                                callP Tryz.prog (64 : Nat) [Value.int IntKind.i64 (1 : Int), Value.slice (some { block := k1, off := (0 : Nat) : Addr }) (1 : Nat) (1 : Nat)] cFrame h7 fun (x1 : Frame) (h8 : Hp) =>
                                  allocP
                                    (Obj.cells
                                      {
                                        toList :=
                                          [Value.int IntKind.i64 x1.Seq, Value.int IntKind.i64 x1.Msg_Kind, Value.int IntKind.i64 x1.Msg_F_0, Value.int IntKind.i64 x1.Msg_F_1, Value.int IntKind.i64 x1.Msg_F_2,
                                            Value.int IntKind.i64 x1.Msg_F_3, Value.int IntKind.i64 x1.Msg_F_4, Value.int IntKind.i64 x1.Msg_F_5] :
                                        Array Value }
                                      (65 : Nat))
                                    h8 fun (k2 : Nat) (h9 : Hp) =>
                                    appendP cFrame (65 : Nat) (64 : Nat) (some { block := k2, off := (0 : Nat) : Addr }) (1 : Nat) (1 : Nat) z1.fst.a z1.fst.len h9 fun (p2 : Option Addr) (k3 k4 : Nat) (h10 : Hp) =>
                                      Q ({ a := p2, len := k3, cap := k4 : Sl }, false) h10)
theorem e61 (p0 : Option Addr) (p1 : Int) (h : Hp) (Q : Sl × Bool → Hp → Prop) : fnD a61 Tryz.prog 61 n61 (tupC [cSl, cB]) [Value.pointer p0, Value.int IntKind.i64 p1] h Q = F61 p0 p1 h Q := by kernel_rfl
theorem c61 {p0 : Option Addr} {p1 : Int} {h : Hp} {Q : Sl × Bool → Hp → Prop} (hk : F61 p0 p1 h Q) : callP Tryz.prog 61 [Value.pointer p0, Value.int IntKind.i64 p1] (tupC [cSl, cB]) h Q :=
  spec_of (prem_of prog_ok dep_ok eqs_ok rfl (by kernel_rfl)) mix_ok ((e61 p0 p1 h Q).mpr hk)
def a62 : Ann := { prom := 8, refs := [(8, 3), (24, 3), (25, 3)], dyn := 0, bcd := fun s => match s with | 3 => some (cMsg) | _ => none, eqs := memL eqL, cdc := cdcs, res := ress, pure := memL [49], pan := memL [48, 81] }
def n62 : An := (.seq (.reg []) (.seq (.seq (.reg []) (.block (.seq (.reg []) (.cond (.seq (.reg []) (.seq (.reg []) .leaf)) (.seq (.reg []) (.cond (.seq (.reg [(0, []), (1, []), (2, []), (4, []), (5, []), (6, []), (3, []), (7, []), (8, []), (9, []), (10, []), (11, []), (12, [])]) (.seq (.seq (.reg []) (.cond (.seq (.reg []) (.seq (.reg []) .leaf)) .leaf)) (.join [] 8658654068736 (.seq (.reg []) (.cond (.reg []) .leaf)) (.seq (.reg []) .leaf)))) (.seq (.reg []) (.cond (.seq (.reg []) (.seq (.reg []) .leaf)) .leaf)))))))) (.seq (.reg []) .leaf)))
/-- (*consols/consolsref10.Sess).own -/
def F62 (p0 : Option Addr) (p1 : Msg) (h : Hp) (Q : Sl × Bool → Hp → Prop) : Prop :=
  condP (p1.Kind == (3 : Int))
    (nilP p0 fun (a1 : Addr) =>
      storeP (cI IntKind.i64) { block := a1.block, off := a1.off + (4 : Nat) : Addr } (0 : Int) h fun (h1 : Hp) =>
        callP Tryz.prog (64 : Nat) [Value.int IntKind.i64 (2 : Int), Value.slice none (0 : Nat) (0 : Nat)] cFrame h1 fun (x1 : Frame) (h2 : Hp) =>
          allocP
            (Obj.cells
              {
                toList :=
                  [Value.int IntKind.i64 x1.Seq, Value.int IntKind.i64 x1.Msg_Kind, Value.int IntKind.i64 x1.Msg_F_0, Value.int IntKind.i64 x1.Msg_F_1, Value.int IntKind.i64 x1.Msg_F_2, Value.int IntKind.i64 x1.Msg_F_3,
                    Value.int IntKind.i64 x1.Msg_F_4, Value.int IntKind.i64 x1.Msg_F_5] :
                Array Value }
              (65 : Nat))
            h2 fun (k1 : Nat) (h3 : Hp) => Q ({ a := some { block := k1, off := (0 : Nat) : Addr }, len := (1 : Nat), cap := (1 : Nat) : Sl }, false) h3)
    (condP (p1.Kind == (4 : Int))
      (nilP p0 fun (a2 : Addr) =>
        atP (6 : Nat) (0 : Int)
          (loadP cP { block := a2.block, off := a2.off + (3 : Nat) : Addr } h fun (p1_1 : Option Addr) =>
            callP Tryz.prog (89 : Nat) [Value.pointer p1_1, Value.int IntKind.i64 p1.F_0] (tupC [cSl, cB]) h fun (z1 : Sl × Bool) (h4 : Hp) =>
              condP (!z1.snd)
                (nilP p0 fun (a3 : Addr) =>
                  storeP cB { block := a3.block, off := a3.off + (1 : Nat) : Addr } false h4 fun (h5 : Hp) =>
                    callP Tryz.prog (64 : Nat) [Value.int IntKind.i64 (5 : Int), Value.slice none (0 : Nat) (0 : Nat)] cFrame h5 fun (x2 : Frame) (h6 : Hp) =>
                      allocP
                        (Obj.cells
                          {
                            toList :=
                              [Value.int IntKind.i64 x2.Seq, Value.int IntKind.i64 x2.Msg_Kind, Value.int IntKind.i64 x2.Msg_F_0, Value.int IntKind.i64 x2.Msg_F_1, Value.int IntKind.i64 x2.Msg_F_2, Value.int IntKind.i64 x2.Msg_F_3,
                                Value.int IntKind.i64 x2.Msg_F_4, Value.int IntKind.i64 x2.Msg_F_5] :
                            Array Value }
                          (65 : Nat))
                        h6 fun (k2 : Nat) (h7 : Hp) => Q ({ a := some { block := k2, off := (0 : Nat) : Addr }, len := (1 : Nat), cap := (1 : Nat) : Sl }, true) h7)
                (joinP (fun (u1 : PUnit) (h8 : Hp) => Q (z1.fst, false) h8) fun (J1 : PUnit → Hp → Prop) =>
                  condP (decide ((↑z1.fst.len : Int) > (0 : Int))) (nilP p0 fun (a4 : Addr) => storeP (cI IntKind.i64) { block := a4.block, off := a4.off + (4 : Nat) : Addr } (0 : Int) h4 fun (h9 : Hp) => J1 PUnit.unit h9)
                    (J1 PUnit.unit h4))))
      (condP (p1.Kind == (5 : Int)) (nilP p0 fun (a5 : Addr) => storeP cB { block := a5.block, off := a5.off + (1 : Nat) : Addr } false h fun (h10 : Hp) => Q ({ a := none, len := (0 : Nat), cap := (0 : Nat) : Sl }, true) h10)
        (Q ({ a := none, len := (0 : Nat), cap := (0 : Nat) : Sl }, false) h)))
theorem e62 (p0 : Option Addr) (p1 : Msg) (h : Hp) (Q : Sl × Bool → Hp → Prop) : fnD a62 Tryz.prog 62 n62 (tupC [cSl, cB]) [Value.pointer p0, cMsg.enc p1] h Q = F62 p0 p1 h Q := by kernel_rfl
theorem c62 {p0 : Option Addr} {p1 : Msg} {h : Hp} {Q : Sl × Bool → Hp → Prop} (hk : F62 p0 p1 h Q) : callP Tryz.prog 62 [Value.pointer p0, cMsg.enc p1] (tupC [cSl, cB]) h Q :=
  spec_of (prem_of prog_ok dep_ok eqs_ok rfl (by kernel_rfl)) mix_ok ((e62 p0 p1 h Q).mpr hk)
def a64 : Ann := { prom := 16, refs := [], dyn := 0, bcd := fun s => match s with | 4 => some (cFrame) | _ => none, eqs := memL eqL, cdc := cdcs, res := ress, pure := memL [49], pan := memL [48, 81] }
def n64 : An := (.seq (.reg []) (.seq (.reg []) .leaf))
/-- consols/consolsref10.of -/
def F64 (p0 : Int) (p1 : Sl) (h : Hp) (Q : Frame → Hp → Prop) : Prop :=
  callP Tryz.prog (43 : Nat) [Value.int IntKind.i64 p0, Value.slice p1.a p1.len p1.cap] cMsg h fun (x1 : Msg) (h1 : Hp) =>
    Q { Seq := (0 : Int), Msg_Kind := x1.Kind, Msg_F_0 := x1.F_0, Msg_F_1 := x1.F_1, Msg_F_2 := x1.F_2, Msg_F_3 := x1.F_3, Msg_F_4 := x1.F_4, Msg_F_5 := x1.F_5 : Frame } h1
theorem e64 (p0 : Int) (p1 : Sl) (h : Hp) (Q : Frame → Hp → Prop) : fnD a64 Tryz.prog 64 n64 (cFrame) [Value.int IntKind.i64 p0, Value.slice p1.a p1.len p1.cap] h Q = F64 p0 p1 h Q := by kernel_rfl
theorem c64 {p0 : Int} {p1 : Sl} {h : Hp} {Q : Frame → Hp → Prop} (hk : F64 p0 p1 h Q) : callP Tryz.prog 64 [Value.int IntKind.i64 p0, Value.slice p1.a p1.len p1.cap] (cFrame) h Q :=
  spec_of (prem_of prog_ok dep_ok eqs_ok rfl (by kernel_rfl)) mix_ok ((e64 p0 p1 h Q).mpr hk)
def a83 : Ann := { prom := 8, refs := [(9, 3), (15, 3), (16, 3), (33, 3), (34, 3)], dyn := 0, bcd := fun s => match s with | 3 => some (cMsg) | _ => none, eqs := memL eqL, cdc := cdcs, res := ress, pure := memL [49], pan := memL [48, 81] }
def n83 : An := (.seq (.reg []) (.seq (.seq (.reg []) (.blockJ [] 4503599627368944 (.seq (.reg []) (.cond (.seq (.reg []) (.seq (.reg []) .leaf)) (.seq (.reg []) (.cond (.seq (.reg []) .leaf) (.seq (.reg []) (.cond (.seq (.reg [(0, []), (1, []), (2, []), (4, []), (5, []), (6, []), (3, []), (7, []), (8, []), (9, []), (10, []), (11, []), (12, [])]) (.seq (.seq (.reg []) (.cond (.seq (.reg []) (.seq (.reg []) .leaf)) .leaf)) (.seq (.reg []) .leaf))) (.seq (.reg []) (.cond (.reg []) .leaf)))))))))) (.seq (.reg []) .leaf)))
/-- (*consols/sess.Sess).session -/
def F83 (p0 : Option Addr) (p1 : Msg) (h : Hp) (Q : Sl → Hp → Prop) : Prop :=
  joinP (fun (u1 : PUnit) (h1 : Hp) => Q { a := none, len := (0 : Nat), cap := (0 : Nat) : Sl } h1) fun (J1 : PUnit → Hp → Prop) =>
    condP (p1.Kind == (1 : Int)) (atP (6 : Nat) (0 : Int) (callP Tryz.prog (51 : Nat) [Value.pointer p0, Value.int IntKind.i64 p1.F_0] (tupC [cSl, cB]) h fun (z1 : Sl × Bool) (h2 : Hp) => Q z1.fst h2))
      (condP (p1.Kind == (3 : Int))
        (callP Tryz.prog (74 : Nat) [Value.int IntKind.i64 (2 : Int), Value.int IntKind.i64 (0 : Int)] cFrame h fun (x1 : Frame) (h3 : Hp) =>
          allocP
            (Obj.cells
              {
                toList :=
                  [Value.int IntKind.i64 x1.Seq, Value.int IntKind.i64 x1.Msg_Kind, Value.int IntKind.i64 x1.Msg_F_0, Value.int IntKind.i64 x1.Msg_F_1, Value.int IntKind.i64 x1.Msg_F_2, Value.int IntKind.i64 x1.Msg_F_3,
                    Value.int IntKind.i64 x1.Msg_F_4, Value.int IntKind.i64 x1.Msg_F_5] :
                Array Value }
              (65 : Nat))
            h3 fun (k1 : Nat) (h4 : Hp) => Q { a := some { block := k1, off := (0 : Nat) : Addr }, len := (1 : Nat), cap := (1 : Nat) : Sl } h4)
        (condP (p1.Kind == (4 : Int))
          (nilP p0 fun (a1 : Addr) =>
            atP (6 : Nat) (0 : Int)
              (loadP cP { block := a1.block, off := a1.off + (3 : Nat) : Addr } h fun (p1_1 : Option Addr) =>
                callP Tryz.prog (82 : Nat) [Value.pointer p1_1, Value.int IntKind.i64 p1.F_0] (tupC [cSl, cB]) h fun (z2 : Sl × Bool) (h5 : Hp) =>
                  condP (!z2.snd)
                    (nilP p0 fun (a2 : Addr) =>
                      storeP cB { block := a2.block, off := a2.off + (1 : Nat) : Addr } false h5 fun (h6 : Hp) =>
                        callP Tryz.prog (74 : Nat) [Value.int IntKind.i64 (5 : Int), Value.int IntKind.i64 (0 : Int)] cFrame h6 fun (x2 : Frame) (h7 : Hp) =>
                          allocP
                            (Obj.cells
                              {
                                toList :=
                                  [Value.int IntKind.i64 x2.Seq, Value.int IntKind.i64 x2.Msg_Kind, Value.int IntKind.i64 x2.Msg_F_0, Value.int IntKind.i64 x2.Msg_F_1, Value.int IntKind.i64 x2.Msg_F_2, Value.int IntKind.i64 x2.Msg_F_3,
                                    Value.int IntKind.i64 x2.Msg_F_4, Value.int IntKind.i64 x2.Msg_F_5] :
                                Array Value }
                              (65 : Nat))
                            h7 fun (k2 : Nat) (h8 : Hp) => Q { a := some { block := k2, off := (0 : Nat) : Addr }, len := (1 : Nat), cap := (1 : Nat) : Sl } h8)
                    (Q z2.fst h5)))
          (condP (p1.Kind == (5 : Int)) (nilP p0 fun (a3 : Addr) => storeP cB { block := a3.block, off := a3.off + (1 : Nat) : Addr } false h fun (h9 : Hp) => J1 PUnit.unit h9) (J1 PUnit.unit h))))
theorem e83 (p0 : Option Addr) (p1 : Msg) (h : Hp) (Q : Sl → Hp → Prop) : fnD a83 Tryz.prog 83 n83 (cSl) [Value.pointer p0, cMsg.enc p1] h Q = F83 p0 p1 h Q := by kernel_rfl
theorem c83 {p0 : Option Addr} {p1 : Msg} {h : Hp} {Q : Sl → Hp → Prop} (hk : F83 p0 p1 h Q) : callP Tryz.prog 83 [Value.pointer p0, cMsg.enc p1] (cSl) h Q :=
  spec_of (prem_of prog_ok dep_ok eqs_ok rfl (by kernel_rfl)) mix_ok ((e83 p0 p1 h Q).mpr hk)
end Go.Proofs.YtmkgcdgpokidjaaGreat
