/- What the functions say, each as one statement: made by program (drive.py). -/
import Derived.Test.YtmkgcdgpokidjaaTy
set_option linter.unusedVariables false
set_option maxRecDepth 20000
namespace Go.Proofs.Ytmkgcdgpokidjaa
open Go.Eng
def a82 : Ann := { prom := 0, refs := [], dyn := 0, bcd := fun s => match s with | _ => none, eqs := memL eqL, cdc := cdcs, res := ress, pure := memL [97], pan := memL [122, 137] }
def n82 : An := (.seq (.reg []) (.seq (.join [(8, false, cB)] 504 (.reg []) (.cond (.seq (.reg []) .leaf) .leaf)) (.seq (.reg []) .leaf)))
/-- consols/sess.New -/
def F82 (p0 : Int) (h : Hp) (Q : Option Addr → Hp → Prop) : Prop :=
  joinP
    (fun (t1 : Bool) (h1 : Hp) =>
      condP t1 (Q none h1)
        (callP Try.prog (48 : Nat) [] cP h1 fun (p1 : Option Addr) (h2 : Hp) =>
          allocP
            (Obj.cells
              { toList := [Value.int IntKind.i64 p0, Value.bool false, Value.int IntKind.i64 (1 : Int), Value.pointer p1, Value.int IntKind.i64 (0 : Int), Value.int IntKind.i64 (0 : Int), Value.int IntKind.i64 (0 : Int)] : Array Value }
              (160 : Nat))
            h2 fun (k1 : Nat) (h3 : Hp) => Q (some { block := k1, off := (0 : Nat) : Addr }) h3))
    fun (J1 : Bool → Hp → Prop) => condP (decide (p0 < (1 : Int))) (J1 true h) (J1 (decide (p0 > (1000 : Int))) h)
theorem e82 (p0 : Int) (h : Hp) (Q : Option Addr → Hp → Prop) : fnD a82 Try.prog 82 n82 (cP) [Value.int IntKind.i64 p0] h Q = F82 p0 h Q := by kernel_rfl
theorem c82 {p0 : Int} {h : Hp} {Q : Option Addr → Hp → Prop} (hk : F82 p0 h Q) : callP Try.prog 82 [Value.int IntKind.i64 p0] (cP) h Q :=
  spec_of (prem_of prog_ok dep_ok eqs_ok rfl (by kernel_rfl)) mix_ok ((e82 p0 h Q).mpr hk)
def a83 : Ann := { prom := 40, refs := [(16, 3), (20, 3), (21, 3), (27, 3), (28, 3), (29, 3)], dyn := 0, bcd := fun s => match s with | 3 => some (cFrame) | 5 => some (cMsg) | _ => none, eqs := memL eqL, cdc := cdcs, res := ress, pure := memL [97], pan := memL [122, 137] }
def n83 : An := (.seq (.reg []) (.seq (.seq (.reg []) (.cond (.seq (.reg []) .leaf) .leaf)) (.join [(4, false, cSl), (5, true, cMsg), (6, false, cB), (7, false, cB)] 562949953419504 (.seq (.reg []) (.cond (.join [(24, false, cB)] 33488896 (.reg []) (.cond (.reg []) .leaf)) (.seq (.reg []) (.seq (.reg []) (.reg []))))) (.join [] 35465847065542656 (.seq (.reg []) (.cond (.reg []) .leaf)) (.seq (.reg [(0, []), (1, []), (2, []), (3, []), (4, []), (5, []), (6, []), (7, [])]) .leaf)))))
/-- (*consols/sess.Sess).Take -/
def F83 (p0 : Option Addr) (p1 : Frame) (h : Hp) (Q : Sl × Msg × Bool × Bool → Hp → Prop) : Prop :=
  condP p0.isNone (Q ({ a := none, len := (0 : Nat), cap := (0 : Nat) : Sl }, { Kind := (0 : Int), F_0 := (0 : Int), F_1 := (0 : Int), F_2 := (0 : Int), F_3 := (0 : Int), F_4 := (0 : Int), F_5 := (0 : Int) : Msg }, false, false) h)
    (joinP
      (fun (z1 : Sl × Msg × Bool × Bool) (h1 : Hp) =>
        joinP (fun (u1 : PUnit) (h2 : Hp) => Q (z1.fst, z1.snd.fst, z1.snd.snd.fst, z1.snd.snd.snd) h2) fun (J1 : PUnit → Hp → Prop) =>
          condP (decide ((↑z1.fst.len : Int) > (0 : Int))) (nilP p0 fun (a1 : Addr) => storeP (cI IntKind.i64) { block := a1.block, off := a1.off + (5 : Nat) : Addr } (0 : Int) h1 fun (h3 : Hp) => J1 PUnit.unit h3) (J1 PUnit.unit h1))
      fun (J2 : Sl × Msg × Bool × Bool → Hp → Prop) =>
      nilP p0 fun (a2 : Addr) =>
        loadP cB { block := a2.block, off := a2.off + (1 : Nat) : Addr } h fun (t1 : Bool) =>
          condP (!t1)
            (joinP
              (fun (t2 : Bool) (h4 : Hp) =>
                condP t2
                  (atP (6 : Nat) (0 : Int)
                    (callP Try.prog (133 : Nat) [Value.pointer p0, Value.int IntKind.i64 p1.Msg_F_0] (tupC [cSl, cB]) h4 fun (z2 : Sl × Bool) (h5 : Hp) =>
                      J2 (z2.fst, { Kind := (0 : Int), F_0 := (0 : Int), F_1 := (0 : Int), F_2 := (0 : Int), F_3 := (0 : Int), F_4 := (0 : Int), F_5 := (0 : Int) : Msg }, false, false) h5))
                  (J2 ({ a := none, len := (0 : Nat), cap := (0 : Nat) : Sl }, { Kind := (0 : Int), F_0 := (0 : Int), F_1 := (0 : Int), F_2 := (0 : Int), F_3 := (0 : Int), F_4 := (0 : Int), F_5 := (0 : Int) : Msg }, false, false) h4))
              fun (J3 : Bool → Hp → Prop) => condP (p1.Seq == (0 : Int)) (J3 (p1.Msg_Kind == (1 : Int)) h) (J3 false h))
            (nilP p0 fun (a3 : Addr) =>
              storeP (cI IntKind.i64) { block := a3.block, off := a3.off + (6 : Nat) : Addr } (0 : Int) h fun (h6 : Hp) =>
                callP Try.prog (134 : Nat)
                  [Value.pointer p0,
                    Value.agg
                      {
                        toList :=
                          [Value.int IntKind.i64 p1.Seq, Value.int IntKind.i64 p1.Msg_Kind, Value.int IntKind.i64 p1.Msg_F_0, Value.int IntKind.i64 p1.Msg_F_1, Value.int IntKind.i64 p1.Msg_F_2, Value.int IntKind.i64 p1.Msg_F_3,
                            Value.int IntKind.i64 p1.Msg_F_4, Value.int IntKind.i64 p1.Msg_F_5] :
                        Array Value }]
                  (tupC [cSl, cMsg, cB]) h6 fun (z3 : Sl × Msg × Bool) (h7 : Hp) =>
                  nilP p0 fun (a4 : Addr) => loadP cB { block := a4.block, off := a4.off + (1 : Nat) : Addr } h7 fun (t3 : Bool) => J2 (z3.fst, z3.snd.fst, z3.snd.snd, !t3) h7))
theorem e83 (p0 : Option Addr) (p1 : Frame) (h : Hp) (Q : Sl × Msg × Bool × Bool → Hp → Prop) : fnD a83 Try.prog 83 n83 (tupC [cSl, cMsg, cB, cB]) [Value.pointer p0, cFrame.enc p1] h Q = F83 p0 p1 h Q := by kernel_rfl
theorem c83 {p0 : Option Addr} {p1 : Frame} {h : Hp} {Q : Sl × Msg × Bool × Bool → Hp → Prop} (hk : F83 p0 p1 h Q) : callP Try.prog 83 [Value.pointer p0, cFrame.enc p1] (tupC [cSl, cMsg, cB, cB]) h Q :=
  spec_of (prem_of prog_ok dep_ok eqs_ok rfl (by kernel_rfl)) mix_ok ((e83 p0 p1 h Q).mpr hk)
def a84 : Ann := { prom := 0, refs := [], dyn := 0, bcd := fun s => match s with | _ => none, eqs := memL eqL, cdc := cdcs, res := ress, pure := memL [97], pan := memL [122, 137] }
def n84 : An := (.seq (.reg []) (.seq (.seq (.reg []) (.cond (.seq (.reg []) .leaf) .leaf)) (.seq (.reg []) .leaf)))
/-- (*consols/sess.Sess).Want -/
def F84 (p0 : Option Addr) (h : Hp) (Q : Int → Hp → Prop) : Prop :=
 condP p0.isNone (Q (0 : Int) h) (nilP p0 fun (a1 : Addr) => loadP (cI IntKind.i64) { block := a1.block, off := a1.off + (2 : Nat) : Addr } h fun (n1 : Int) => Q n1 h)
theorem e84 (p0 : Option Addr) (h : Hp) (Q : Int → Hp → Prop) : fnD a84 Try.prog 84 n84 (cI .i64) [Value.pointer p0] h Q = F84 p0 h Q := by kernel_rfl
theorem c84 {p0 : Option Addr} {h : Hp} {Q : Int → Hp → Prop} (hk : F84 p0 h Q) : callP Try.prog 84 [Value.pointer p0] (cI .i64) h Q :=
  spec_of (prem_of prog_ok dep_ok eqs_ok rfl (by kernel_rfl)) mix_ok ((e84 p0 h Q).mpr hk)
def a85 : Ann := { prom := 8852, refs := [(62, 7)], dyn := 0, bcd := fun s => match s with | 2 => some (cFrame) | 4 => some (cMsg) | 7 => some (cFrame) | 9 => some (cMsg) | 13 => some (cMsg) | _ => none, eqs := memL eqL, cdc := cdcs, res := ress, pure := memL [97], pan := memL [122, 137] }
def n85 : An := (.seq (.reg []) (.seq (.reg []) (.seq (.reg []) (.seq (.reg []) (.seq (.reg []) (.seq (.reg []) (.seq (.reg []) (.seq (.reg [(0, []), (1, []), (2, []), (3, []), (4, []), (5, []), (7, []), (6, []), (8, []), (9, []), (10, []), (11, []), (12, []), (13, []), (14, []), (15, []), (16, []), (17, []), (18, []), (19, []), (20, []), (21, []), (22, []), (23, []), (24, []), (25, []), (26, []), (27, []), (28, []), (29, []), (30, []), (31, []), (32, []), (33, []), (34, []), (35, []), (36, [])]) .leaf))))))))
/-- consols/consolslaw10.known -/
def F85  (h : Hp) (Q : Bool → Hp → Prop) : Prop :=
  callP Try.prog (82 : Nat) [Value.int IntKind.i64 (3 : Int)] cP h fun (p1 : Option Addr) (h1 : Hp) =>
    callP Try.prog (83 : Nat)
      [Value.pointer p1,
        Value.agg
          {
            toList :=
              [Value.int IntKind.i64 (0 : Int), Value.int IntKind.i64 (1 : Int), Value.int IntKind.i64 (1 : Int), Value.int IntKind.i64 (0 : Int), Value.int IntKind.i64 (0 : Int), Value.int IntKind.i64 (0 : Int),
                Value.int IntKind.i64 (0 : Int), Value.int IntKind.i64 (0 : Int)] :
            Array Value }]
      (tupC [cSl, cMsg, cB, cB]) h1 fun (z1 : Sl × Msg × Bool × Bool) (h2 : Hp) =>
      callP Try.prog (83 : Nat)
        [Value.pointer p1,
          Value.agg
            {
              toList :=
                [Value.int IntKind.i64 (1 : Int), Value.int IntKind.i64 (12 : Int), Value.int IntKind.i64 (7 : Int), Value.int IntKind.i64 (0 : Int), Value.int IntKind.i64 (0 : Int), Value.int IntKind.i64 (0 : Int),
                  Value.int IntKind.i64 (0 : Int), Value.int IntKind.i64 (0 : Int)] :
              Array Value }]
        (tupC [cSl, cMsg, cB, cB]) h2 fun (z2 : Sl × Msg × Bool × Bool) (h3 : Hp) =>
        callP Try.prog (83 : Nat)
          [Value.pointer p1,
            Value.agg
              {
                toList :=
                  [Value.int IntKind.i64 (1 : Int), Value.int IntKind.i64 (12 : Int), Value.int IntKind.i64 (7 : Int), Value.int IntKind.i64 (0 : Int), Value.int IntKind.i64 (0 : Int), Value.int IntKind.i64 (0 : Int),
                    Value.int IntKind.i64 (0 : Int), Value.int IntKind.i64 (0 : Int)] :
                Array Value }]
          (tupC [cSl, cMsg, cB, cB]) h3 fun (z3 : Sl × Msg × Bool × Bool) (h4 : Hp) =>
          condP ((↑z1.fst.len : Int) == (1 : Int))
            (idxP z1.fst.a z1.fst.len (0 : Int) fun (a1 : Addr) =>
              loadP cFrame (a1.add (0 : Nat)) h4 fun (x1 : Frame) =>
                condP
                  (x1.Seq == (0 : Int) &&
                    (x1.Msg_Kind == (1 : Int) && (x1.Msg_F_0 == (1 : Int) && (x1.Msg_F_1 == (0 : Int) && (x1.Msg_F_2 == (0 : Int) && (x1.Msg_F_3 == (0 : Int) && (x1.Msg_F_4 == (0 : Int) && (x1.Msg_F_5 == (0 : Int) && true))))))))
                  (condP z2.snd.snd.fst
                    (condP
                      (z2.snd.fst.Kind == (12 : Int) &&
                        (z2.snd.fst.F_0 == (7 : Int) && (z2.snd.fst.F_1 == (0 : Int) && (z2.snd.fst.F_2 == (0 : Int) && (z2.snd.fst.F_3 == (0 : Int) && (z2.snd.fst.F_4 == (0 : Int) && (z2.snd.fst.F_5 == (0 : Int) && true)))))))
                      (condP (!z3.snd.snd.fst)
                        (callP Try.prog (88 : Nat) [Value.pointer p1] cB h4 fun (t1 : Bool) (h5 : Hp) =>
                          condP t1
                            (callP Try.prog (84 : Nat) [Value.pointer p1] (cI IntKind.i64) h5 fun (n1 : Int) (h6 : Hp) =>
                              condP (n1 == (2 : Int)) (callP Try.prog (82 : Nat) [Value.int IntKind.i64 (0 : Int)] cP h6 fun (p2 : Option Addr) (h7 : Hp) => Q p2.isNone h7) (Q false h6))
                            (Q false h5))
                        (Q false h4))
                      (Q false h4))
                    (Q false h4))
                  (Q false h4))
            (Q false h4)
theorem e85  (h : Hp) (Q : Bool → Hp → Prop) : fnD a85 Try.prog 85 n85 (cB) [] h Q = F85  h Q := by kernel_rfl
theorem c85  {h : Hp} {Q : Bool → Hp → Prop} (hk : F85  h Q) : callP Try.prog 85 [] (cB) h Q :=
  spec_of (prem_of prog_ok dep_ok eqs_ok rfl (by kernel_rfl)) mix_ok ((e85  h Q).mpr hk)
def a86 : Ann := { prom := 48, refs := [(24, 5), (25, 5)], dyn := 33554432, bcd := fun s => match s with | 4 => some (cMsg) | 5 => some (cMsg) | _ => none, eqs := memL eqL, cdc := cdcs, res := ress, pure := memL [97], pan := memL [122, 137] }
def n86 : An := (.seq (.reg []) (.seq (.reg []) (.seq (.seq (.reg []) (.block (.loop [(5, true, cMsg), (6, false, cI .i64)] 67108448 (.seq (.join [(16, false, cB)] 130560 (.reg []) (.cond .leaf .leaf)) (.seq (.block (.reg [])) (.reg [])))))) (.seq (.reg []) .leaf))))
/-- consols/consolsref5.Of -/
def F86 (p0 : Int) (p1 : Sl) (h : Hp) (Q : Msg → Hp → Prop) : Prop :=
  loopP ({ Kind := p0, F_0 := (0 : Int), F_1 := (0 : Int), F_2 := (0 : Int), F_3 := (0 : Int), F_4 := (0 : Int), F_5 := (0 : Int) : Msg }, (0 : Int)) h fun (J1 : Msg × Int → Hp → Prop) (z1 : Msg × Int) (h1 : Hp) =>
    joinP
      (fun (t1 : Bool) (h2 : Hp) =>
        condP t1
          (idxP p1.a p1.len z1.snd fun (a1 : Addr) =>
            loadP (cI IntKind.i64) (a1.add (z1.snd.toNat * (1 : Nat))) h2 fun (n1 : Int) =>
              atP (6 : Nat) z1.snd
                (storeLP cMsg
                  [Value.int IntKind.i64 z1.fst.Kind, Value.int IntKind.i64 z1.fst.F_0, Value.int IntKind.i64 z1.fst.F_1, Value.int IntKind.i64 z1.fst.F_2, Value.int IntKind.i64 z1.fst.F_3, Value.int IntKind.i64 z1.fst.F_4,
                    Value.int IntKind.i64 z1.fst.F_5]
                  ((1 : Nat) + z1.snd.toNat * (1 : Nat)) [Value.int IntKind.i64 n1] fun (x1 : Msg) => J1 (x1, IntKind.i64.wrap (z1.snd + (1 : Int))) h2))
          (Q z1.fst h2))
      fun (J2 : Bool → Hp → Prop) => condP (decide (z1.snd < (↑p1.len : Int))) (J2 (decide (z1.snd < (6 : Int))) h1) (J2 false h1)
theorem e86 (p0 : Int) (p1 : Sl) (h : Hp) (Q : Msg → Hp → Prop) : fnD a86 Try.prog 86 n86 (cMsg) [Value.int IntKind.i64 p0, Value.slice p1.a p1.len p1.cap] h Q = F86 p0 p1 h Q := by kernel_rfl
theorem c86 {p0 : Int} {p1 : Sl} {h : Hp} {Q : Msg → Hp → Prop} (hk : F86 p0 p1 h Q) : callP Try.prog 86 [Value.int IntKind.i64 p0, Value.slice p1.a p1.len p1.cap] (cMsg) h Q :=
  spec_of (prem_of prog_ok dep_ok eqs_ok rfl (by kernel_rfl)) mix_ok ((e86 p0 p1 h Q).mpr hk)
def a87 : Ann := { prom := 0, refs := [], dyn := 0, bcd := fun s => match s with | _ => none, eqs := memL eqL, cdc := cdcs, res := ress, pure := memL [97], pan := memL [122, 137] }
def n87 : An := (.seq (.reg []) (.seq (.join [(13, false, cB)] 16352 (.reg []) (.cond (.seq (.reg []) .leaf) .leaf)) (.seq (.reg []) (.seq (.reg []) (.seq (.reg [(0, []), (1, []), (2, []), (4, []), (5, []), (6, []), (3, []), (7, []), (8, []), (9, []), (10, [])]) (.seq (.blockJ [(2, false, cSl)] 38685626227667858712690700 (.join [(38, false, cB)] 4503324749463552 (.reg [(0, []), (1, []), (2, []), (3, []), (4, []), (6, []), (7, []), (8, []), (5, []), (9, []), (10, []), (11, []), (12, []), (13, [])]) (.cond (.seq (.reg []) (.seq (.reg []) .leaf)) (.join [(57, false, cB)] 2361039126246746750976 (.reg [(0, []), (1, []), (2, []), (3, []), (4, []), (6, []), (7, []), (8, []), (5, []), (9, []), (10, []), (11, []), (12, []), (13, [])]) (.cond (.reg []) (.seq (.reg [(0, []), (1, []), (2, []), (4, []), (5, []), (6, []), (3, []), (7, []), (8, []), (9, [])]) (.cond (.reg []) .leaf))))))) (.join [] 2437194452343092416207650816 (.seq (.reg []) (.cond (.reg []) .leaf)) (.seq (.reg []) .leaf))))))))
/-- (*consols/sess.Sess).Tick -/
def F87 (p0 : Option Addr) (h : Hp) (Q : Sl × Bool → Hp → Prop) : Prop :=
  joinP
    (fun (t1 : Bool) (h1 : Hp) =>
      condP t1 (Q ({ a := none, len := (0 : Nat), cap := (0 : Nat) : Sl }, false) h1)
        (nilP p0 fun (a1 : Addr) =>
          loadP (cI IntKind.i64) { block := a1.block, off := a1.off + (5 : Nat) : Addr } h1 fun (n1 : Int) =>
            nilP p0 fun (a2 : Addr) =>
              storeP (cI IntKind.i64) { block := a2.block, off := a2.off + (5 : Nat) : Addr } (IntKind.i64.wrap (n1 + (1 : Int))) h1 fun (h2 : Hp) =>
                nilP p0 fun (a3 : Addr) =>
                  loadP (cI IntKind.i64) { block := a3.block, off := a3.off + (6 : Nat) : Addr } h2 fun (n2 : Int) =>
                    nilP p0 fun (a4 : Addr) =>
                      storeP (cI IntKind.i64) { block := a4.block, off := a4.off + (6 : Nat) : Addr } (IntKind.i64.wrap (n2 + (1 : Int))) h2 fun (h3 : Hp) =>
                        nilP p0 fun (a5 : Addr) =>
                          nilP p0 fun (a6 : Addr) =>
                            loadP (cI IntKind.i64) { block := a5.block, off := a5.off + (6 : Nat) : Addr } h3 fun (n3 : Int) =>
                              loadP (cI IntKind.i64) (a6.add (0 : Nat)) h3 fun (n4 : Int) =>
                                n4 ≠ (0 : Int) ∧
                                  joinP
                                    (fun (s1 : Sl) (h4 : Hp) =>
                                      joinP (fun (u1 : PUnit) (h5 : Hp) => Q (s1, false) h5) fun (J1 : PUnit → Hp → Prop) =>
                                        condP (decide ((↑s1.len : Int) > (0 : Int))) (nilP p0 fun (a7 : Addr) => storeP (cI IntKind.i64) { block := a7.block, off := a7.off + (5 : Nat) : Addr } (0 : Int) h4 fun (h6 : Hp) => J1 PUnit.unit h6)
                                          (J1 PUnit.unit h4))
                                    fun (J2 : Sl → Hp → Prop) =>
                                    joinP
                                      (fun (t2 : Bool) (h7 : Hp) =>
                                        condP t2
                                          (nilP p0 fun (a8 : Addr) =>
                                            storeP cB { block := a8.block, off := a8.off + (1 : Nat) : Addr } false h7 fun (h8 : Hp) =>
                                              callP Try.prog (135 : Nat) [Value.int IntKind.i64 (5 : Int), Value.int IntKind.i64 (0 : Int)] cFrame h8 fun (x1 : Frame) (h9 : Hp) =>
                                                allocP
                                                  (Obj.cells
                                                    {
                                                      toList :=
                                                        [Value.int IntKind.i64 x1.Seq, Value.int IntKind.i64 x1.Msg_Kind, Value.int IntKind.i64 x1.Msg_F_0, Value.int IntKind.i64 x1.Msg_F_1, Value.int IntKind.i64 x1.Msg_F_2,
                                                          Value.int IntKind.i64 x1.Msg_F_3, Value.int IntKind.i64 x1.Msg_F_4, Value.int IntKind.i64 x1.Msg_F_5] :
                                                      Array Value }
                                                    (48 : Nat))
                                                  h9 fun (k1 : Nat) (h10 : Hp) => Q ({ a := some { block := k1, off := (0 : Nat) : Addr }, len := (1 : Nat), cap := (1 : Nat) : Sl }, true) h10)
                                          (joinP
                                            (fun (t3 : Bool) (h11 : Hp) =>
                                              condP t3
                                                (callP Try.prog (135 : Nat) [Value.int IntKind.i64 (3 : Int), Value.int IntKind.i64 (0 : Int)] cFrame h11 fun (x2 : Frame) (h12 : Hp) =>
                                                  allocP
                                                    (Obj.cells
                                                      {
                                                        toList :=
                                                          [Value.int IntKind.i64 x2.Seq, Value.int IntKind.i64 x2.Msg_Kind, Value.int IntKind.i64 x2.Msg_F_0, Value.int IntKind.i64 x2.Msg_F_1, Value.int IntKind.i64 x2.Msg_F_2,
                                                            Value.int IntKind.i64 x2.Msg_F_3, Value.int IntKind.i64 x2.Msg_F_4, Value.int IntKind.i64 x2.Msg_F_5] :
                                                        Array Value }
                                                      (48 : Nat))
                                                    h12 fun (k2 : Nat) (h13 : Hp) => J2 { a := some { block := k2, off := (0 : Nat) : Addr }, len := (1 : Nat), cap := (1 : Nat) : Sl } h13)
                                                (nilP p0 fun (a9 : Addr) =>
                                                  nilP p0 fun (a10 : Addr) =>
                                                    loadP (cI IntKind.i64) { block := a9.block, off := a9.off + (5 : Nat) : Addr } h11 fun (n5 : Int) =>
                                                      loadP (cI IntKind.i64) (a10.add (0 : Nat)) h11 fun (n6 : Int) =>
                                                        condP (decide (n5 ≥ n6))
                                                          (callP Try.prog (135 : Nat) [Value.int IntKind.i64 (2 : Int), Value.int IntKind.i64 (0 : Int)] cFrame h11 fun (x3 : Frame) (h14 : Hp) =>
                                                            allocP
                                                              (Obj.cells
                                                                {
                                                                  toList :=
                                                                    [Value.int IntKind.i64 x3.Seq, Value.int IntKind.i64 x3.Msg_Kind, Value.int IntKind.i64 x3.Msg_F_0, Value.int IntKind.i64 x3.Msg_F_1, Value.int IntKind.i64 x3.Msg_F_2,
                                                                      Value.int IntKind.i64 x3.Msg_F_3, Value.int IntKind.i64 x3.Msg_F_4, Value.int IntKind.i64 x3.Msg_F_5] :
                                                                  Array Value }
                                                                (48 : Nat))
                                                              h14 fun (k3 : Nat) (h15 : Hp) => J2 { a := some { block := k3, off := (0 : Nat) : Addr }, len := (1 : Nat), cap := (1 : Nat) : Sl } h15)
                                                          (J2 { a := none, len := (0 : Nat), cap := (0 : Nat) : Sl } h11)))
                                            fun (J3 : Bool → Hp → Prop) =>
                                            condP (n3.tmod n4 == (0 : Int))
                                              (nilP p0 fun (a11 : Addr) =>
                                                nilP p0 fun (a12 : Addr) =>
                                                  loadP (cI IntKind.i64) { block := a11.block, off := a11.off + (6 : Nat) : Addr } h7 fun (n7 : Int) =>
                                                    loadP (cI IntKind.i64) (a12.add (0 : Nat)) h7 fun (n8 : Int) => n8 ≠ (0 : Int) ∧ J3 (quoI IntKind.i64 n7 n8 == (2 : Int)) h7)
                                              (J3 false h7)))
                                      fun (J4 : Bool → Hp → Prop) =>
                                      condP (n3.tmod n4 == (0 : Int))
                                        (nilP p0 fun (a13 : Addr) =>
                                          nilP p0 fun (a14 : Addr) =>
                                            loadP (cI IntKind.i64) { block := a13.block, off := a13.off + (6 : Nat) : Addr } h3 fun (n9 : Int) =>
                                              loadP (cI IntKind.i64) (a14.add (0 : Nat)) h3 fun (n10 : Int) => n10 ≠ (0 : Int) ∧ J4 (quoI IntKind.i64 n9 n10 == (3 : Int)) h3)
                                        (J4 false h3)))
    fun (J5 : Bool → Hp → Prop) => condP p0.isNone (J5 true h) (nilP p0 fun (a15 : Addr) => loadP cB { block := a15.block, off := a15.off + (1 : Nat) : Addr } h fun (t4 : Bool) => J5 (!t4) h)
theorem e87 (p0 : Option Addr) (h : Hp) (Q : Sl × Bool → Hp → Prop) : fnD a87 Try.prog 87 n87 (tupC [cSl, cB]) [Value.pointer p0] h Q = F87 p0 h Q := by kernel_rfl
theorem c87 {p0 : Option Addr} {h : Hp} {Q : Sl × Bool → Hp → Prop} (hk : F87 p0 h Q) : callP Try.prog 87 [Value.pointer p0] (tupC [cSl, cB]) h Q :=
  spec_of (prem_of prog_ok dep_ok eqs_ok rfl (by kernel_rfl)) mix_ok ((e87 p0 h Q).mpr hk)
def a88 : Ann := { prom := 0, refs := [], dyn := 0, bcd := fun s => match s with | _ => none, eqs := memL eqL, cdc := cdcs, res := ress, pure := memL [97], pan := memL [122, 137] }
def n88 : An := (.seq (.reg []) (.seq (.reg []) .leaf))
/-- (*consols/sess.Sess).Up -/
def F88 (p0 : Option Addr) (h : Hp) (Q : Bool → Hp → Prop) : Prop :=
 condP (!p0.isNone) (nilP p0 fun (a1 : Addr) => loadP cB { block := a1.block, off := a1.off + (1 : Nat) : Addr } h fun (t1 : Bool) => Q t1 h) (Q false h)
theorem e88 (p0 : Option Addr) (h : Hp) (Q : Bool → Hp → Prop) : fnD a88 Try.prog 88 n88 (cB) [Value.pointer p0] h Q = F88 p0 h Q := by kernel_rfl
theorem c88 {p0 : Option Addr} {h : Hp} {Q : Bool → Hp → Prop} (hk : F88 p0 h Q) : callP Try.prog 88 [Value.pointer p0] (cB) h Q :=
  spec_of (prem_of prog_ok dep_ok eqs_ok rfl (by kernel_rfl)) mix_ok ((e88 p0 h Q).mpr hk)
def a89 : Ann := { prom := 0, refs := [], dyn := 0, bcd := fun s => match s with | _ => none, eqs := memL eqL, cdc := cdcs, res := ress, pure := memL [97], pan := memL [122, 137] }
def n89 : An := (.seq (.reg []) (.seq (.join [(12, false, cB)] 8176 (.reg []) (.cond (.seq (.reg []) .leaf) .leaf)) (.seq (.reg [(0, []), (2, []), (3, []), (6, []), (7, []), (8, []), (9, []), (1, []), (4, []), (10, []), (11, []), (12, []), (5, []), (13, []), (14, [])]) (.seq (.reg []) .leaf))))
/-- consols/msg.Bytes -/
def F89 (p0 : Frame) (h : Hp) (Q : Sl → Hp → Prop) : Prop :=
  allocP
    (Obj.cells
      {
        toList :=
          [Value.int IntKind.i64 p0.Seq, Value.int IntKind.i64 p0.Msg_Kind, Value.int IntKind.i64 p0.Msg_F_0, Value.int IntKind.i64 p0.Msg_F_1, Value.int IntKind.i64 p0.Msg_F_2, Value.int IntKind.i64 p0.Msg_F_3,
            Value.int IntKind.i64 p0.Msg_F_4, Value.int IntKind.i64 p0.Msg_F_5] :
        Array Value }
      (48 : Nat))
    h fun (k1 : Nat) (h1 : Hp) =>
    joinP
      (fun (t1 : Bool) (h2 : Hp) =>
        condP t1 (Q { a := none, len := (0 : Nat), cap := (0 : Nat) : Sl } h2)
          (loadP (cI IntKind.i64) { block := k1, off := (0 : Nat) : Addr } h2 fun (n1 : Int) =>
            loadP (cI IntKind.i64) { block := k1, off := (0 : Nat) + (1 : Nat) : Addr } h2 fun (n2 : Int) =>
              loadP (cI IntKind.i64) { block := k1, off := (0 : Nat) + (1 : Nat) : Addr } h2 fun (n3 : Int) =>
                pureP Try.prog (97 : Nat) [Value.int IntKind.i64 n3] (cI IntKind.i64) fun (n4 : Int) =>
                  cutP (6 : Nat) (6 : Nat) none (some n4) fun (k2 k3 : Nat) =>
                    allocP (Obj.cells { toList := [Value.int IntKind.i64 n1, Value.int IntKind.i64 n2] : Array Value } (2 : Nat)) h2 fun (k4 : Nat) (h3 : Hp) =>
                      appendP (cI IntKind.i64) (2 : Nat) (8 : Nat) (some { block := k4, off := (0 : Nat) : Addr }) (2 : Nat) (2 : Nat) (cutA (some { block := k1, off := (0 : Nat) + (1 : Nat) + (1 : Nat) : Addr }) k2 (6 : Nat) (1 : Nat))
                        (k3 - k2) h3 fun (p1 : Option Addr) (k5 k6 : Nat) (h4 : Hp) => callP Try.prog (62 : Nat) [Value.slice p1 k5 k6] cSl h4 fun (s1 : Sl) (h5 : Hp) => Q s1 h5))
      fun (J1 : Bool → Hp → Prop) =>
      loadP cMsg { block := k1, off := (0 : Nat) + (1 : Nat) : Addr } h1 fun (x1 : Msg) =>
        callP Try.prog (91 : Nat)
          [Value.agg
              { toList := [Value.int IntKind.i64 x1.Kind, Value.int IntKind.i64 x1.F_0, Value.int IntKind.i64 x1.F_1, Value.int IntKind.i64 x1.F_2, Value.int IntKind.i64 x1.F_3, Value.int IntKind.i64 x1.F_4, Value.int IntKind.i64 x1.F_5] :
                Array Value }]
          cB h1 fun (t2 : Bool) (h6 : Hp) => condP (!t2) (J1 true h6) (loadP (cI IntKind.i64) { block := k1, off := (0 : Nat) : Addr } h6 fun (n5 : Int) => J1 (decide (n5 < (0 : Int))) h6)
theorem e89 (p0 : Frame) (h : Hp) (Q : Sl → Hp → Prop) : fnD a89 Try.prog 89 n89 (cSl) [cFrame.enc p0] h Q = F89 p0 h Q := by kernel_rfl
theorem c89 {p0 : Frame} {h : Hp} {Q : Sl → Hp → Prop} (hk : F89 p0 h Q) : callP Try.prog 89 [cFrame.enc p0] (cSl) h Q :=
  spec_of (prem_of prog_ok dep_ok eqs_ok rfl (by kernel_rfl)) mix_ok ((e89 p0 h Q).mpr hk)
def a90 : Ann := { prom := 2, refs := [(5, 1), (9, 1), (14, 1), (16, 1), (17, 1), (21, 1), (22, 1), (30, 1), (31, 1), (32, 1)], dyn := 4294967296, bcd := fun s => match s with | 1 => some (cFrame) | _ => none, eqs := memL eqL, cdc := cdcs, res := ress, pure := memL [97], pan := memL [122, 137] }
def n90 : An := (.seq (.reg []) (.seq (.join [(13, false, cB)] 16352 (.reg []) (.cond (.seq (.reg []) .leaf) .leaf)) (.seq (.reg []) (.seq (.seq (.reg []) (.block (.loop [(3, false, cSl), (4, false, cI .i64)] 68718428184 (.seq (.seq (.reg []) (.cond .leaf .leaf)) (.seq (.block (.reg [])) (.reg [])))))) (.seq (.reg []) .leaf)))))
/-- consols/consolsref5.Bytes -/
def F90 (p0 : Frame) (h : Hp) (Q : Sl → Hp → Prop) : Prop :=
  joinP
    (fun (t1 : Bool) (h1 : Hp) =>
      condP t1 (Q { a := none, len := (0 : Nat), cap := (0 : Nat) : Sl } h1)
        (allocP (Obj.cells { toList := [Value.int IntKind.i64 p0.Seq, Value.int IntKind.i64 p0.Msg_Kind] : Array Value } (2 : Nat)) h1 fun (k1 : Nat) (h2 : Hp) =>
          loopP ({ a := some { block := k1, off := (0 : Nat) : Addr }, len := (2 : Nat), cap := (2 : Nat) : Sl }, (0 : Int)) h2 fun (J1 : Sl × Int → Hp → Prop) (z1 : Sl × Int) (h3 : Hp) =>
            callP Try.prog (96 : Nat) [Value.int IntKind.i64 p0.Msg_Kind] (cI IntKind.i64) h3 fun (n1 : Int) (h4 : Hp) =>
              condP (decide (z1.snd < n1))
                (atP (6 : Nat) z1.snd
                  (loadLP (cI IntKind.i64)
                    [Value.int IntKind.i64 p0.Seq, Value.int IntKind.i64 p0.Msg_Kind, Value.int IntKind.i64 p0.Msg_F_0, Value.int IntKind.i64 p0.Msg_F_1, Value.int IntKind.i64 p0.Msg_F_2, Value.int IntKind.i64 p0.Msg_F_3,
                      Value.int IntKind.i64 p0.Msg_F_4, Value.int IntKind.i64 p0.Msg_F_5]
                    ((2 : Nat) + z1.snd.toNat * (1 : Nat)) fun (n2 : Int) =>
                    allocP (Obj.cells { toList := [Value.int IntKind.i64 n2] : Array Value } (2 : Nat)) h4 fun (k2 : Nat) (h5 : Hp) =>
                      appendP (cI IntKind.i64) (2 : Nat) (8 : Nat) z1.fst.a z1.fst.len z1.fst.cap (some { block := k2, off := (0 : Nat) : Addr }) (1 : Nat) h5 fun (p1 : Option Addr) (k3 k4 : Nat) (h6 : Hp) =>
                        J1 ({ a := p1, len := k3, cap := k4 : Sl }, IntKind.i64.wrap (z1.snd + (1 : Int))) h6))
                (callP Try.prog (64 : Nat) [Value.slice z1.fst.a z1.fst.len z1.fst.cap] cSl h4 fun (s1 : Sl) (h7 : Hp) => Q s1 h7)))
    fun (J2 : Bool → Hp → Prop) =>
    condP (decide (p0.Seq < (0 : Int))) (J2 true h)
      (callP Try.prog (92 : Nat)
        [Value.agg
            {
              toList :=
                [Value.int IntKind.i64 p0.Msg_Kind, Value.int IntKind.i64 p0.Msg_F_0, Value.int IntKind.i64 p0.Msg_F_1, Value.int IntKind.i64 p0.Msg_F_2, Value.int IntKind.i64 p0.Msg_F_3, Value.int IntKind.i64 p0.Msg_F_4,
                  Value.int IntKind.i64 p0.Msg_F_5] :
              Array Value }]
        cB h fun (t2 : Bool) (h8 : Hp) => J2 (!t2) h8)
theorem e90 (p0 : Frame) (h : Hp) (Q : Sl → Hp → Prop) : fnD a90 Try.prog 90 n90 (cSl) [cFrame.enc p0] h Q = F90 p0 h Q := by kernel_rfl
theorem c90 {p0 : Frame} {h : Hp} {Q : Sl → Hp → Prop} (hk : F90 p0 h Q) : callP Try.prog 90 [cFrame.enc p0] (cSl) h Q :=
  spec_of (prem_of prog_ok dep_ok eqs_ok rfl (by kernel_rfl)) mix_ok ((e90 p0 h Q).mpr hk)
def a91 : Ann := { prom := 0, refs := [], dyn := 0, bcd := fun s => match s with | _ => none, eqs := memL eqL, cdc := cdcs, res := ress, pure := memL [97], pan := memL [122, 137] }
def n91 : An := (.seq (.reg []) (.seq (.reg []) (.seq (.seq (.reg []) (.cond (.seq (.reg []) .leaf) .leaf)) (.seq (.seq (.reg []) (.block (.loop [(15, false, cI .i64)] 4161572 (.seq (.reg []) (.seq (.cond .leaf .leaf) (.seq (.block (.seq (.reg []) (.seq (.reg []) (.cond (.seq (.reg []) .leaf) .leaf)))) (.reg []))))))) (.seq (.reg []) .leaf)))))
/-- consols/msg.Is -/
def F91 (p0 : Msg) (h : Hp) (Q : Bool → Hp → Prop) : Prop :=
  allocP
    (Obj.cells
      { toList := [Value.int IntKind.i64 p0.Kind, Value.int IntKind.i64 p0.F_0, Value.int IntKind.i64 p0.F_1, Value.int IntKind.i64 p0.F_2, Value.int IntKind.i64 p0.F_3, Value.int IntKind.i64 p0.F_4, Value.int IntKind.i64 p0.F_5] :
        Array Value }
      (46 : Nat))
    h fun (k1 : Nat) (h1 : Hp) =>
    loadP (cI IntKind.i64) { block := k1, off := (0 : Nat) : Addr } h1 fun (n1 : Int) =>
      pureP Try.prog (97 : Nat) [Value.int IntKind.i64 n1] (cI IntKind.i64) fun (n2 : Int) =>
        condP (decide (n2 < (0 : Int))) (Q false h1)
          (cutP (6 : Nat) (6 : Nat) (some n2) none fun (k2 k3 : Nat) =>
            loopP (0 : Int) h1 fun (J1 : Int → Hp → Prop) (n3 : Int) (h2 : Hp) =>
              condP (decide (n3 < (↑(k3 - k2) : Int)))
                (idxP (cutA (some { block := k1, off := (0 : Nat) + (1 : Nat) : Addr }) k2 (6 : Nat) (1 : Nat)) (k3 - k2) n3 fun (a1 : Addr) =>
                  loadP (cI IntKind.i64) (a1.add (n3.toNat * (1 : Nat))) h2 fun (n4 : Int) => condP (n4 != (0 : Int)) (Q false h2) (J1 (IntKind.i64.wrap (n3 + (1 : Int))) h2))
                (Q true h2))
theorem e91 (p0 : Msg) (h : Hp) (Q : Bool → Hp → Prop) : fnD a91 Try.prog 91 n91 (cB) [cMsg.enc p0] h Q = F91 p0 h Q := by kernel_rfl
theorem c91 {p0 : Msg} {h : Hp} {Q : Bool → Hp → Prop} (hk : F91 p0 h Q) : callP Try.prog 91 [cMsg.enc p0] (cB) h Q :=
  spec_of (prem_of prog_ok dep_ok eqs_ok rfl (by kernel_rfl)) mix_ok ((e91 p0 h Q).mpr hk)
def a92 : Ann := { prom := 2, refs := [(5, 1), (15, 1), (16, 1)], dyn := 65536, bcd := fun s => match s with | 1 => some (cMsg) | _ => none, eqs := memL eqL, cdc := cdcs, res := ress, pure := memL [97], pan := memL [122, 137] }
def n92 : An := (.seq (.reg []) (.seq (.reg []) (.seq (.seq (.reg []) (.block (.loop [(4, false, cI .i64)] 523284 (.seq (.seq (.reg []) (.cond .leaf .leaf)) (.seq (.block (.seq (.reg []) (.cond (.seq (.reg []) .leaf) .leaf))) (.reg [])))))) (.seq (.reg []) .leaf))))
/-- consols/consolsref5.Is -/
def F92 (p0 : Msg) (h : Hp) (Q : Bool → Hp → Prop) : Prop :=
  callP Try.prog (96 : Nat) [Value.int IntKind.i64 p0.Kind] (cI IntKind.i64) h fun (n1 : Int) (h1 : Hp) =>
    loopP (maxI n1 (0 : Int)) h1 fun (J1 : Int → Hp → Prop) (n2 : Int) (h2 : Hp) =>
      condP (decide (n2 < (6 : Int)))
        (atP (6 : Nat) n2
          (loadLP (cI IntKind.i64)
            [Value.int IntKind.i64 p0.Kind, Value.int IntKind.i64 p0.F_0, Value.int IntKind.i64 p0.F_1, Value.int IntKind.i64 p0.F_2, Value.int IntKind.i64 p0.F_3, Value.int IntKind.i64 p0.F_4, Value.int IntKind.i64 p0.F_5]
            ((1 : Nat) + n2.toNat * (1 : Nat)) fun (n3 : Int) => condP (n3 != (0 : Int)) (Q false h2) (J1 (IntKind.i64.wrap (n2 + (1 : Int))) h2)))
        (Q (decide (n1 ≥ (0 : Int))) h2)
theorem e92 (p0 : Msg) (h : Hp) (Q : Bool → Hp → Prop) : fnD a92 Try.prog 92 n92 (cB) [cMsg.enc p0] h Q = F92 p0 h Q := by kernel_rfl
theorem c92 {p0 : Msg} {h : Hp} {Q : Bool → Hp → Prop} (hk : F92 p0 h Q) : callP Try.prog 92 [cMsg.enc p0] (cB) h Q :=
  spec_of (prem_of prog_ok dep_ok eqs_ok rfl (by kernel_rfl)) mix_ok ((e92 p0 h Q).mpr hk)
def a93 : Ann := { prom := 2, refs := [(18, 1), (19, 1)], dyn := 0, bcd := fun s => match s with | 1 => some (cFrame) | _ => none, eqs := memL eqL, cdc := cdcs, res := ress, pure := memL [97], pan := memL [122, 137] }
def n93 : An := (.seq (.reg []) (.seq (.reg []) (.seq (.reg []) .leaf)))
/-- consols/consolslaw5.known -/
def F93  (h : Hp) (Q : Bool → Hp → Prop) : Prop :=
  allocP (Obj.cells { toList := [Value.int IntKind.u8 (0 : Int), Value.int IntKind.u8 (4 : Int)] : Array Value } (5 : Nat)) h fun (k1 : Nat) (h1 : Hp) =>
    callP Try.prog (94 : Nat) [Value.slice (some { block := k1, off := (0 : Nat) : Addr }) (2 : Nat) (2 : Nat)] (tupC [cFrame, cI IntKind.i64]) h1 fun (z1 : Frame × Int) (h2 : Hp) =>
      callP Try.prog (89 : Nat)
        [Value.agg
            {
              toList :=
                [Value.int IntKind.i64 (0 : Int), Value.int IntKind.i64 (2 : Int), Value.int IntKind.i64 (0 : Int), Value.int IntKind.i64 (0 : Int), Value.int IntKind.i64 (0 : Int), Value.int IntKind.i64 (0 : Int),
                  Value.int IntKind.i64 (0 : Int), Value.int IntKind.i64 (0 : Int)] :
              Array Value }]
        cSl h2 fun (s1 : Sl) (h3 : Hp) =>
        strP s1.a s1.len h3 fun (u1 : ByteArray) =>
          condP (strEq u1 { data := #[(0 : UInt8), (4 : UInt8)] : ByteArray })
            (condP (z1.snd == (0 : Int)) (condP (z1.fst.Msg_Kind == (2 : Int)) (pureP Try.prog (97 : Nat) [Value.int IntKind.i64 (28 : Int)] (cI IntKind.i64) fun (n1 : Int) => Q (n1 == (6 : Int)) h3) (Q false h3)) (Q false h3)) (Q false h3)
theorem e93  (h : Hp) (Q : Bool → Hp → Prop) : fnD a93 Try.prog 93 n93 (cB) [] h Q = F93  h Q := by kernel_rfl
theorem c93  {h : Hp} {Q : Bool → Hp → Prop} (hk : F93  h Q) : callP Try.prog 93 [] (cB) h Q :=
  spec_of (prem_of prog_ok dep_ok eqs_ok rfl (by kernel_rfl)) mix_ok ((e93  h Q).mpr hk)
def a94 : Ann := { prom := 0, refs := [], dyn := 0, bcd := fun s => match s with | _ => none, eqs := memL eqL, cdc := cdcs, res := ress, pure := memL [97], pan := memL [122, 137] }
def n94 : An := (.seq .regX (.seq .regX (.seq (.reg []) (.join [] 4278190080 (.join [(29, false, cB)] 1056964608 (.reg []) (.cond .regX .leaf)) (.seq (.reg []) (.join [] 8246337208320 (.seq (.reg []) (.cond .regX .leaf)) (.seq (.reg []) (.seq (.reg [(0, []), (1, []), (2, []), (3, []), (4, []), (5, [])]) (.seq (.reg []) .leaf)))))))))
/-- consols/msg.Read -/
def F94 (p0 : Sl) (h : Hp) (Q : Frame × Int → Hp → Prop) : Prop :=
  allocP
    (Obj.cells
      {
        toList :=
          [Value.int IntKind.i64 (0 : Int), Value.int IntKind.i64 (0 : Int), Value.int IntKind.i64 (0 : Int), Value.int IntKind.i64 (0 : Int), Value.int IntKind.i64 (0 : Int), Value.int IntKind.i64 (0 : Int),
            Value.int IntKind.i64 (0 : Int), Value.int IntKind.i64 (0 : Int)] :
        Array Value }
      (48 : Nat))
    h fun (k1 : Nat) (h1 : Hp) =>
    allocP (Obj.cells { toList := [Value.int IntKind.i64 (0 : Int)] : Array Value } (71 : Nat)) h1 fun (k2 : Nat) (h2 : Hp) =>
      callXP Try.prog (137 : Nat) [Value.slice p0.a p0.len p0.cap] (tupC [cI IntKind.i64, cSl]) h2
        (fun (z1 : Int × Sl) (h3 : Hp) =>
          callXP Try.prog (137 : Nat) [Value.slice z1.snd.a z1.snd.len z1.snd.cap] (tupC [cI IntKind.i64, cSl]) h3
            (fun (z2 : Int × Sl) (h4 : Hp) =>
              pureP Try.prog (97 : Nat) [Value.int IntKind.i64 z2.fst] (cI IntKind.i64) fun (n1 : Int) =>
                joinP
                  (fun (u1 : PUnit) (h5 : Hp) =>
                    callP Try.prog (63 : Nat) [Value.slice p0.a p0.len p0.cap, Value.int IntKind.i64 (IntKind.i64.wrap ((2 : Int) + n1))] (tupC [cSl, cI IntKind.i64]) h5 fun (z3 : Sl × Int) (h6 : Hp) =>
                      joinP
                        (fun (u2 : PUnit) (h7 : Hp) =>
                          storeP cFrame { block := k1, off := (0 : Nat) : Addr }
                            { Seq := z1.fst, Msg_Kind := z2.fst, Msg_F_0 := (0 : Int), Msg_F_1 := (0 : Int), Msg_F_2 := (0 : Int), Msg_F_3 := (0 : Int), Msg_F_4 := (0 : Int), Msg_F_5 := (0 : Int) : Frame } h7 fun (h8 : Hp) =>
                            cutP (6 : Nat) (6 : Nat) none none fun (k3 k4 : Nat) =>
                              cutP z3.fst.len z3.fst.cap (some (2 : Int)) none fun (k5 k6 : Nat) =>
                                copyP (cI IntKind.i64) (cutA (some { block := k1, off := (0 : Nat) + (1 : Nat) + (1 : Nat) : Addr }) k3 (6 : Nat) (1 : Nat)) (k4 - k3) (cutA z3.fst.a k5 z3.fst.cap (1 : Nat)) (k6 - k5) h8
                                  fun (n2 : Int) (h9 : Hp) =>
                                  loadP cFrame { block := k1, off := (0 : Nat) : Addr } h9 fun (x1 : Frame) =>
                                    storeP cFrame { block := k1, off := (0 : Nat) : Addr } x1 h9 fun (h10 : Hp) =>
                                      storeP (cI IntKind.i64) { block := k2, off := (0 : Nat) : Addr } (0 : Int) h10 fun (h11 : Hp) =>
                                        deferP Try.prog (136 : Nat) [Value.pointer (some { block := k1, off := (0 : Nat) : Addr }), Value.pointer (some { block := k2, off := (0 : Nat) : Addr })] none h11 fun (h12 : Hp) =>
                                          loadP cFrame { block := k1, off := (0 : Nat) : Addr } h12 fun (x2 : Frame) => loadP (cI IntKind.i64) { block := k2, off := (0 : Nat) : Addr } h12 fun (n3 : Int) => Q (x2, n3) h12)
                        fun (J1 : PUnit → Hp → Prop) =>
                        condP (z3.snd != (0 : Int))
                          (deferP Try.prog (136 : Nat) [Value.pointer (some { block := k1, off := (0 : Nat) : Addr }), Value.pointer (some { block := k2, off := (0 : Nat) : Addr })]
                            (some (Value.iface (164 : Nat) (Value.agg { toList := [] : Array Value }))) h6 fun (h13 : Hp) =>
                            loadP cFrame { block := k1, off := (0 : Nat) : Addr } h13 fun (x3 : Frame) => loadP (cI IntKind.i64) { block := k2, off := (0 : Nat) : Addr } h13 fun (n4 : Int) => Q (x3, n4) h13)
                          (J1 PUnit.unit h6))
                  fun (J2 : PUnit → Hp → Prop) =>
                  joinP
                    (fun (t1 : Bool) (h14 : Hp) =>
                      condP t1
                        (deferP Try.prog (136 : Nat) [Value.pointer (some { block := k1, off := (0 : Nat) : Addr }), Value.pointer (some { block := k2, off := (0 : Nat) : Addr })]
                          (some (Value.iface (164 : Nat) (Value.agg { toList := [] : Array Value }))) h14 fun (h15 : Hp) =>
                          loadP cFrame { block := k1, off := (0 : Nat) : Addr } h15 fun (x4 : Frame) => loadP (cI IntKind.i64) { block := k2, off := (0 : Nat) : Addr } h15 fun (n5 : Int) => Q (x4, n5) h15)
                        (J2 PUnit.unit h14))
                    fun (J3 : Bool → Hp → Prop) => condP (decide (z1.fst < (0 : Int))) (J3 true h4) (J3 (decide (n1 < (0 : Int))) h4))
            fun (x5 : Value) (h16 : Hp) =>
            deferP Try.prog (136 : Nat) [Value.pointer (some { block := k1, off := (0 : Nat) : Addr }), Value.pointer (some { block := k2, off := (0 : Nat) : Addr })] (some x5) h16 fun (h17 : Hp) =>
              loadP cFrame { block := k1, off := (0 : Nat) : Addr } h17 fun (x6 : Frame) => loadP (cI IntKind.i64) { block := k2, off := (0 : Nat) : Addr } h17 fun (n6 : Int) => Q (x6, n6) h17)
        fun (x7 : Value) (h18 : Hp) =>
        deferP Try.prog (136 : Nat) [Value.pointer (some { block := k1, off := (0 : Nat) : Addr }), Value.pointer (some { block := k2, off := (0 : Nat) : Addr })] (some x7) h18 fun (h19 : Hp) =>
          loadP cFrame { block := k1, off := (0 : Nat) : Addr } h19 fun (x8 : Frame) => loadP (cI IntKind.i64) { block := k2, off := (0 : Nat) : Addr } h19 fun (n7 : Int) => Q (x8, n7) h19
theorem e94 (p0 : Sl) (h : Hp) (Q : Frame × Int → Hp → Prop) : fnDD a94 Try.prog 94 n94 (tupC [cFrame, cI .i64]) [Value.slice p0.a p0.len p0.cap] h Q = F94 p0 h Q := by kernel_rfl
theorem c94 {p0 : Sl} {h : Hp} {Q : Frame × Int → Hp → Prop} (hk : F94 p0 h Q) : callP Try.prog 94 [Value.slice p0.a p0.len p0.cap] (tupC [cFrame, cI .i64]) h Q :=
  specDD_of (prem_of prog_ok dep_ok eqs_ok rfl (by kernel_rfl)) mix_ok ((e94 p0 h Q).mpr hk)
def a95 : Ann := { prom := 1028, refs := [(76, 10), (77, 10), (78, 10)], dyn := 302231454903657293676544, bcd := fun s => match s with | 2 => some (cFrame) | 10 => some (cFrame) | _ => none, eqs := memL eqL, cdc := cdcs, res := ress, pure := memL [97], pan := memL [122, 137] }
def n95 : An := (.seq (.reg []) (.seq (.reg []) (.seq (.reg []) (.seq (.join [(45, false, cB)] 70368475742208 (.reg []) (.cond (.seq (.reg []) .leaf) .leaf)) (.seq (.reg []) (.seq (.reg [(0, []), (1, []), (2, []), (3, []), (4, []), (5, []), (6, []), (7, []), (8, []), (9, []), (10, []), (11, []), (12, [])]) (.seq (.seq (.reg []) (.cond (.seq (.reg []) .leaf) .leaf)) (.seq (.seq (.reg []) (.block (.loop [(10, true, cFrame), (13, false, cI .i64)] 604426016319167168259072 (.seq (.seq (.reg []) (.cond .leaf .leaf)) (.seq (.block (.reg [])) (.reg [])))))) (.seq (.reg []) .leaf)))))))))
/-- consols/consolsref5.Read -/
def F95 (p0 : Sl) (h : Hp) (Q : Frame × Int → Hp → Prop) : Prop :=
  callP Try.prog (69 : Nat) [Value.slice p0.a p0.len p0.cap] (tupC [cI IntKind.i64, cI IntKind.i64, cB]) h fun (z1 : Int × Int × Bool) (h1 : Hp) =>
    cutP p0.len p0.cap (some z1.snd.fst) none fun (k1 k2 : Nat) =>
      callP Try.prog (69 : Nat) [Value.slice (cutA p0.a k1 p0.cap (1 : Nat)) (k2 - k1) (p0.cap - k1)] (tupC [cI IntKind.i64, cI IntKind.i64, cB]) h1 fun (z2 : Int × Int × Bool) (h2 : Hp) =>
        joinP
          (fun (t1 : Bool) (h3 : Hp) =>
            condP t1 (Q ({ Seq := (0 : Int), Msg_Kind := (0 : Int), Msg_F_0 := (0 : Int), Msg_F_1 := (0 : Int), Msg_F_2 := (0 : Int), Msg_F_3 := (0 : Int), Msg_F_4 := (0 : Int), Msg_F_5 := (0 : Int) : Frame }, (2 : Int)) h3)
              (cutP p0.len p0.cap (some (IntKind.i64.wrap (z1.snd.fst + z2.snd.fst))) none fun (k3 k4 : Nat) =>
                callP Try.prog (96 : Nat) [Value.int IntKind.i64 z2.fst] (cI IntKind.i64) h3 fun (n1 : Int) (h4 : Hp) =>
                  callP Try.prog (67 : Nat) [Value.slice (cutA p0.a k3 p0.cap (1 : Nat)) (k4 - k3) (p0.cap - k3), Value.int IntKind.i64 n1] (tupC [cSl, cI IntKind.i64]) h4 fun (z3 : Sl × Int) (h5 : Hp) =>
                    condP (z3.snd != (0 : Int))
                      (Q ({ Seq := (0 : Int), Msg_Kind := (0 : Int), Msg_F_0 := (0 : Int), Msg_F_1 := (0 : Int), Msg_F_2 := (0 : Int), Msg_F_3 := (0 : Int), Msg_F_4 := (0 : Int), Msg_F_5 := (0 : Int) : Frame }, (2 : Int)) h5)
                      (loopP ({ Seq := z1.fst, Msg_Kind := z2.fst, Msg_F_0 := (0 : Int), Msg_F_1 := (0 : Int), Msg_F_2 := (0 : Int), Msg_F_3 := (0 : Int), Msg_F_4 := (0 : Int), Msg_F_5 := (0 : Int) : Frame }, (0 : Int)) h5
                        fun (J1 : Frame × Int → Hp → Prop) (z4 : Frame × Int) (h6 : Hp) =>
                        condP (decide (z4.snd < (↑z3.fst.len : Int)))
                          (idxP z3.fst.a z3.fst.len z4.snd fun (a1 : Addr) =>
                            loadP (cI IntKind.i64) (a1.add (z4.snd.toNat * (1 : Nat))) h6 fun (n2 : Int) =>
                              atP (6 : Nat) z4.snd
                                (storeLP cFrame
                                  [Value.int IntKind.i64 z4.fst.Seq, Value.int IntKind.i64 z4.fst.Msg_Kind, Value.int IntKind.i64 z4.fst.Msg_F_0, Value.int IntKind.i64 z4.fst.Msg_F_1, Value.int IntKind.i64 z4.fst.Msg_F_2,
                                    Value.int IntKind.i64 z4.fst.Msg_F_3, Value.int IntKind.i64 z4.fst.Msg_F_4, Value.int IntKind.i64 z4.fst.Msg_F_5]
                                  ((2 : Nat) + z4.snd.toNat * (1 : Nat)) [Value.int IntKind.i64 n2] fun (x1 : Frame) => J1 (x1, IntKind.i64.wrap (z4.snd + (1 : Int))) h6))
                          (Q (z4.fst, (0 : Int)) h6))))
          fun (J2 : Bool → Hp → Prop) =>
          condP (!z1.snd.snd) (J2 true h2) (condP (!z2.snd.snd) (J2 true h2) (condP (decide (z1.fst < (0 : Int))) (J2 true h2) (condP (decide (z2.fst < (1 : Int))) (J2 true h2) (J2 (decide (z2.fst > (28 : Int))) h2))))
theorem e95 (p0 : Sl) (h : Hp) (Q : Frame × Int → Hp → Prop) : fnD a95 Try.prog 95 n95 (tupC [cFrame, cI .i64]) [Value.slice p0.a p0.len p0.cap] h Q = F95 p0 h Q := by kernel_rfl
theorem c95 {p0 : Sl} {h : Hp} {Q : Frame × Int → Hp → Prop} (hk : F95 p0 h Q) : callP Try.prog 95 [Value.slice p0.a p0.len p0.cap] (tupC [cFrame, cI .i64]) h Q :=
  spec_of (prem_of prog_ok dep_ok eqs_ok rfl (by kernel_rfl)) mix_ok ((e95 p0 h Q).mpr hk)
def a96 : Ann := { prom := 0, refs := [], dyn := 0, bcd := fun s => match s with | _ => none, eqs := memL eqL, cdc := cdcs, res := ress, pure := memL [97], pan := memL [122, 137] }
def n96 : An := (.seq (.reg []) (.seq (.reg []) (.seq (.join [(12, false, cB)] 8160 (.reg []) (.cond (.seq (.reg []) .leaf) .leaf)) (.seq (.reg []) .leaf))))
/-- consols/consolsref5.Many -/
def F96 (p0 : Int) (h : Hp) (Q : Int → Hp → Prop) : Prop :=
  allocP
    (Obj.cells
      {
        toList :=
          [Value.int IntKind.i64 (-1 : Int), Value.int IntKind.i64 (1 : Int), Value.int IntKind.i64 (0 : Int), Value.int IntKind.i64 (0 : Int), Value.int IntKind.i64 (1 : Int), Value.int IntKind.i64 (0 : Int),
            Value.int IntKind.i64 (5 : Int), Value.int IntKind.i64 (1 : Int), Value.int IntKind.i64 (3 : Int), Value.int IntKind.i64 (5 : Int), Value.int IntKind.i64 (3 : Int), Value.int IntKind.i64 (1 : Int),
            Value.int IntKind.i64 (1 : Int), Value.int IntKind.i64 (1 : Int), Value.int IntKind.i64 (1 : Int), Value.int IntKind.i64 (1 : Int), Value.int IntKind.i64 (1 : Int), Value.int IntKind.i64 (2 : Int),
            Value.int IntKind.i64 (2 : Int), Value.int IntKind.i64 (2 : Int), Value.int IntKind.i64 (4 : Int), Value.int IntKind.i64 (2 : Int), Value.int IntKind.i64 (5 : Int), Value.int IntKind.i64 (4 : Int),
            Value.int IntKind.i64 (3 : Int), Value.int IntKind.i64 (2 : Int), Value.int IntKind.i64 (2 : Int), Value.int IntKind.i64 (1 : Int), Value.int IntKind.i64 (6 : Int)] :
        Array Value }
      (3 : Nat))
    h fun (k1 : Nat) (h1 : Hp) =>
    joinP (fun (t1 : Bool) (h2 : Hp) => condP t1 (Q (-1 : Int) h2) (idxP (some { block := k1, off := (0 : Nat) : Addr }) (29 : Nat) p0 fun (a1 : Addr) => loadP (cI IntKind.i64) (a1.add (p0.toNat * (1 : Nat))) h2 fun (n1 : Int) => Q n1 h2))
      fun (J1 : Bool → Hp → Prop) => condP (decide (p0 < (0 : Int))) (J1 true h1) (J1 (decide (p0 ≥ (29 : Int))) h1)
theorem e96 (p0 : Int) (h : Hp) (Q : Int → Hp → Prop) : fnD a96 Try.prog 96 n96 (cI .i64) [Value.int IntKind.i64 p0] h Q = F96 p0 h Q := by kernel_rfl
theorem c96 {p0 : Int} {h : Hp} {Q : Int → Hp → Prop} (hk : F96 p0 h Q) : callP Try.prog 96 [Value.int IntKind.i64 p0] (cI .i64) h Q :=
  spec_of (prem_of prog_ok dep_ok eqs_ok rfl (by kernel_rfl)) mix_ok ((e96 p0 h Q).mpr hk)
def a97 : Ann := { prom := 0, refs := [], dyn := 0, bcd := fun s => match s with | _ => none, eqs := memL eqL, cdc := cdcs, res := ress, pure := memL [97], pan := memL [122, 137] }
def n97 : An := (.seq (.reg []) (.seq (.seq (.reg []) (.block (.join [(4, false, cB)] 240 (.seq (.reg []) (.cond .leaf (.seq (.reg []) (.cond .leaf (.reg []))))) (.cond (.seq (.reg []) .leaf) (.join [(8, false, cB)] 524032 (.seq (.reg []) (.cond .leaf (.seq (.reg []) (.cond .leaf (.seq (.reg []) (.cond .leaf (.seq (.reg []) (.cond .leaf (.seq (.reg []) (.cond .leaf (.seq (.reg []) (.cond .leaf (.seq (.reg []) (.cond .leaf (.seq (.reg []) (.cond .leaf (.seq (.reg []) (.cond .leaf (.reg []))))))))))))))))))) (.cond (.seq (.reg []) .leaf) (.join [(19, false, cB)] 66584576 (.seq (.reg []) (.cond .leaf (.seq (.reg []) (.cond .leaf (.seq (.reg []) (.cond .leaf (.seq (.reg []) (.cond .leaf (.seq (.reg []) (.cond .leaf (.reg []))))))))))) (.cond (.seq (.reg []) .leaf) (.join [(26, false, cB)] 1006632960 (.seq (.reg []) (.cond .leaf (.seq (.reg []) (.cond .leaf (.reg []))))) (.cond (.seq (.reg []) .leaf) (.join [(30, false, cB)] 7516192768 (.seq (.reg []) (.cond .leaf (.reg []))) (.cond (.seq (.reg []) .leaf) (.join [(33, false, cB)] 128849018880 (.seq (.reg []) (.cond .leaf (.seq (.reg []) (.cond .leaf (.reg []))))) (.cond (.seq (.reg []) .leaf) (.seq (.reg []) (.cond (.seq (.reg []) .leaf) .leaf)))))))))))))))) (.seq (.reg []) .leaf)))
/-- consols/msg.Many -/
def F97 (p0 : Int) (h : Hp) (Q : Int → Hp → Prop) : Prop :=
  joinP
    (fun (t1 : Bool) (h1 : Hp) =>
      condP t1 (Q (0 : Int) h1)
        (joinP
          (fun (t2 : Bool) (h2 : Hp) =>
            condP t2 (Q (1 : Int) h2)
              (joinP
                (fun (t3 : Bool) (h3 : Hp) =>
                  condP t3 (Q (2 : Int) h3)
                    (joinP
                      (fun (t4 : Bool) (h4 : Hp) =>
                        condP t4 (Q (3 : Int) h4)
                          (joinP
                            (fun (t5 : Bool) (h5 : Hp) =>
                              condP t5 (Q (4 : Int) h5)
                                (joinP (fun (t6 : Bool) (h6 : Hp) => condP t6 (Q (5 : Int) h6) (condP (p0 == (28 : Int)) (Q (6 : Int) h6) (Q (-1 : Int) h6))) fun (J1 : Bool → Hp → Prop) =>
                                  condP (p0 == (6 : Int)) (J1 (p0 == (6 : Int)) h5) (condP (p0 == (9 : Int)) (J1 (p0 == (9 : Int)) h5) (J1 (p0 == (22 : Int)) h5))))
                            fun (J2 : Bool → Hp → Prop) => condP (p0 == (20 : Int)) (J2 (p0 == (20 : Int)) h4) (J2 (p0 == (23 : Int)) h4)))
                      fun (J3 : Bool → Hp → Prop) => condP (p0 == (8 : Int)) (J3 (p0 == (8 : Int)) h3) (condP (p0 == (10 : Int)) (J3 (p0 == (10 : Int)) h3) (J3 (p0 == (24 : Int)) h3))))
                fun (J4 : Bool → Hp → Prop) =>
                condP (p0 == (17 : Int)) (J4 (p0 == (17 : Int)) h2)
                  (condP (p0 == (18 : Int)) (J4 (p0 == (18 : Int)) h2)
                    (condP (p0 == (19 : Int)) (J4 (p0 == (19 : Int)) h2) (condP (p0 == (21 : Int)) (J4 (p0 == (21 : Int)) h2) (condP (p0 == (25 : Int)) (J4 (p0 == (25 : Int)) h2) (J4 (p0 == (26 : Int)) h2)))))))
          fun (J5 : Bool → Hp → Prop) =>
          condP (p0 == (1 : Int)) (J5 (p0 == (1 : Int)) h1)
            (condP (p0 == (4 : Int)) (J5 (p0 == (4 : Int)) h1)
              (condP (p0 == (7 : Int)) (J5 (p0 == (7 : Int)) h1)
                (condP (p0 == (11 : Int)) (J5 (p0 == (11 : Int)) h1)
                  (condP (p0 == (12 : Int)) (J5 (p0 == (12 : Int)) h1)
                    (condP (p0 == (13 : Int)) (J5 (p0 == (13 : Int)) h1)
                      (condP (p0 == (14 : Int)) (J5 (p0 == (14 : Int)) h1) (condP (p0 == (15 : Int)) (J5 (p0 == (15 : Int)) h1) (condP (p0 == (16 : Int)) (J5 (p0 == (16 : Int)) h1) (J5 (p0 == (27 : Int)) h1)))))))))))
    fun (J6 : Bool → Hp → Prop) => condP (p0 == (2 : Int)) (J6 (p0 == (2 : Int)) h) (condP (p0 == (3 : Int)) (J6 (p0 == (3 : Int)) h) (J6 (p0 == (5 : Int)) h))
theorem e97 (p0 : Int) (h : Hp) (Q : Int → Hp → Prop) : fnD a97 Try.prog 97 n97 (cI .i64) [Value.int IntKind.i64 p0] h Q = F97 p0 h Q := by kernel_rfl
theorem c97 {p0 : Int} {h : Hp} {Q : Int → Hp → Prop} (hk : F97 p0 h Q) : callP Try.prog 97 [Value.int IntKind.i64 p0] (cI .i64) h Q :=
  spec_of (prem_of prog_ok dep_ok eqs_ok rfl (by kernel_rfl)) mix_ok ((e97 p0 h Q).mpr hk)
def a98 : Ann := { prom := 0, refs := [], dyn := 0, bcd := fun s => match s with | _ => none, eqs := memL eqL, cdc := cdcs, res := ress, pure := memL [97], pan := memL [122, 137] }
def n98 : An := (.seq (.reg []) (.seq (.reg []) .leaf))
/-- consols/msg.Session -/
def F98 (p0 : Int) (h : Hp) (Q : Bool → Hp → Prop) : Prop :=
 condP (decide (p0 ≥ (1 : Int))) (Q (decide (p0 ≤ (5 : Int))) h) (Q false h)
theorem e98 (p0 : Int) (h : Hp) (Q : Bool → Hp → Prop) : fnD a98 Try.prog 98 n98 (cB) [Value.int IntKind.i64 p0] h Q = F98 p0 h Q := by kernel_rfl
theorem c98 {p0 : Int} {h : Hp} {Q : Bool → Hp → Prop} (hk : F98 p0 h Q) : callP Try.prog 98 [Value.int IntKind.i64 p0] (cB) h Q :=
  spec_of (prem_of prog_ok dep_ok eqs_ok rfl (by kernel_rfl)) mix_ok ((e98 p0 h Q).mpr hk)
def a99 : Ann := { prom := 0, refs := [], dyn := 0, bcd := fun s => match s with | _ => none, eqs := memL eqL, cdc := cdcs, res := ress, pure := memL [97], pan := memL [122, 137] }
def n99 : An := (.seq (.reg []) (.seq (.reg []) .leaf))
/-- consols/consolsref5.Session -/
def F99 (p0 : Int) (h : Hp) (Q : Bool → Hp → Prop) : Prop :=
 condP (decide (p0 ≥ (1 : Int))) (Q (decide (p0 ≤ (5 : Int))) h) (Q false h)
theorem e99 (p0 : Int) (h : Hp) (Q : Bool → Hp → Prop) : fnD a99 Try.prog 99 n99 (cB) [Value.int IntKind.i64 p0] h Q = F99 p0 h Q := by kernel_rfl
theorem c99 {p0 : Int} {h : Hp} {Q : Bool → Hp → Prop} (hk : F99 p0 h Q) : callP Try.prog 99 [Value.int IntKind.i64 p0] (cB) h Q :=
  spec_of (prem_of prog_ok dep_ok eqs_ok rfl (by kernel_rfl)) mix_ok ((e99 p0 h Q).mpr hk)
def a100 : Ann := { prom := 0, refs := [], dyn := 0, bcd := fun s => match s with | _ => none, eqs := memL eqL, cdc := cdcs, res := ress, pure := memL [97], pan := memL [122, 137] }
def n100 : An := (.seq (.reg []) (.seq (.reg []) .leaf))
/-- consols/msg.Asked -/
def F100 (p0 : Int) (h : Hp) (Q : Bool → Hp → Prop) : Prop :=
 condP (decide (p0 ≥ (6 : Int))) (Q (decide (p0 ≤ (17 : Int))) h) (Q false h)
theorem e100 (p0 : Int) (h : Hp) (Q : Bool → Hp → Prop) : fnD a100 Try.prog 100 n100 (cB) [Value.int IntKind.i64 p0] h Q = F100 p0 h Q := by kernel_rfl
theorem c100 {p0 : Int} {h : Hp} {Q : Bool → Hp → Prop} (hk : F100 p0 h Q) : callP Try.prog 100 [Value.int IntKind.i64 p0] (cB) h Q :=
  spec_of (prem_of prog_ok dep_ok eqs_ok rfl (by kernel_rfl)) mix_ok ((e100 p0 h Q).mpr hk)
def a101 : Ann := { prom := 0, refs := [], dyn := 0, bcd := fun s => match s with | _ => none, eqs := memL eqL, cdc := cdcs, res := ress, pure := memL [97], pan := memL [122, 137] }
def n101 : An := (.seq (.reg []) (.seq (.reg []) .leaf))
/-- consols/consolsref5.Asked -/
def F101 (p0 : Int) (h : Hp) (Q : Bool → Hp → Prop) : Prop :=
 condP (decide (p0 ≥ (6 : Int))) (Q (decide (p0 ≤ (17 : Int))) h) (Q false h)
theorem e101 (p0 : Int) (h : Hp) (Q : Bool → Hp → Prop) : fnD a101 Try.prog 101 n101 (cB) [Value.int IntKind.i64 p0] h Q = F101 p0 h Q := by kernel_rfl
theorem c101 {p0 : Int} {h : Hp} {Q : Bool → Hp → Prop} (hk : F101 p0 h Q) : callP Try.prog 101 [Value.int IntKind.i64 p0] (cB) h Q :=
  spec_of (prem_of prog_ok dep_ok eqs_ok rfl (by kernel_rfl)) mix_ok ((e101 p0 h Q).mpr hk)
def a102 : Ann := { prom := 24, refs := [(14, 3)], dyn := 0, bcd := fun s => match s with | 3 => some (cMsg) | 4 => some (cFrame) | _ => none, eqs := memL eqL, cdc := cdcs, res := ress, pure := memL [97], pan := memL [122, 137] }
def n102 : An := (.seq (.reg []) (.seq (.join [(17, false, cB)] 262080 (.reg []) (.cond (.seq (.reg []) .leaf) .leaf)) (.join [] 66584576 (.seq (.reg []) (.cond (.reg []) .leaf)) (.seq (.reg [(0, []), (1, []), (2, []), (4, []), (6, []), (7, []), (8, []), (3, []), (9, []), (5, [9]), (10, []), (11, [])]) .leaf))))
/-- (*consols/sess.Sess).Send -/
def F102 (p0 : Option Addr) (p1 : Msg) (h : Hp) (Q : Frame × Bool → Hp → Prop) : Prop :=
  joinP
    (fun (t1 : Bool) (h1 : Hp) =>
      condP t1 (Q ({ Seq := (0 : Int), Msg_Kind := (0 : Int), Msg_F_0 := (0 : Int), Msg_F_1 := (0 : Int), Msg_F_2 := (0 : Int), Msg_F_3 := (0 : Int), Msg_F_4 := (0 : Int), Msg_F_5 := (0 : Int) : Frame }, false) h1)
        (joinP
          (fun (u1 : PUnit) (h2 : Hp) =>
            nilP p0 fun (a1 : Addr) =>
              nilP p0 fun (a2 : Addr) =>
                loadP cP { block := a1.block, off := a1.off + (3 : Nat) : Addr } h2 fun (p1_1 : Option Addr) =>
                  loadP cB { block := a2.block, off := a2.off + (1 : Nat) : Addr } h2 fun (t2 : Bool) =>
                    callP Try.prog (49 : Nat)
                      [Value.pointer p1_1,
                        Value.agg
                          {
                            toList :=
                              [Value.int IntKind.i64 p1.Kind, Value.int IntKind.i64 p1.F_0, Value.int IntKind.i64 p1.F_1, Value.int IntKind.i64 p1.F_2, Value.int IntKind.i64 p1.F_3, Value.int IntKind.i64 p1.F_4,
                                Value.int IntKind.i64 p1.F_5] :
                            Array Value }]
                      cFrame h2 fun (x1 : Frame) (h3 : Hp) => (h3.rds { block := a2.block, off := a2.off + (1 : Nat) : Addr } [Value.bool t2] ∧ True) ∧ Q (x1, t2) h3)
          fun (J1 : PUnit → Hp → Prop) =>
          nilP p0 fun (a3 : Addr) =>
            loadP cB { block := a3.block, off := a3.off + (1 : Nat) : Addr } h1 fun (t3 : Bool) =>
              condP t3 (nilP p0 fun (a4 : Addr) => storeP (cI IntKind.i64) { block := a4.block, off := a4.off + (5 : Nat) : Addr } (0 : Int) h1 fun (h4 : Hp) => J1 PUnit.unit h4) (J1 PUnit.unit h1)))
    fun (J2 : Bool → Hp → Prop) =>
    condP p0.isNone (J2 true h)
      (callP Try.prog (91 : Nat)
        [Value.agg
            { toList := [Value.int IntKind.i64 p1.Kind, Value.int IntKind.i64 p1.F_0, Value.int IntKind.i64 p1.F_1, Value.int IntKind.i64 p1.F_2, Value.int IntKind.i64 p1.F_3, Value.int IntKind.i64 p1.F_4, Value.int IntKind.i64 p1.F_5] :
              Array Value }]
        cB h fun (t4 : Bool) (h5 : Hp) => condP (!t4) (J2 true h5) (callP Try.prog (98 : Nat) [Value.int IntKind.i64 p1.Kind] cB h5 fun (t5 : Bool) (h6 : Hp) => J2 t5 h6))
theorem e102 (p0 : Option Addr) (p1 : Msg) (h : Hp) (Q : Frame × Bool → Hp → Prop) : fnD a102 Try.prog 102 n102 (tupC [cFrame, cB]) [Value.pointer p0, cMsg.enc p1] h Q = F102 p0 p1 h Q := by kernel_rfl
theorem c102 {p0 : Option Addr} {p1 : Msg} {h : Hp} {Q : Frame × Bool → Hp → Prop} (hk : F102 p0 p1 h Q) : callP Try.prog 102 [Value.pointer p0, cMsg.enc p1] (tupC [cFrame, cB]) h Q :=
  spec_of (prem_of prog_ok dep_ok eqs_ok rfl (by kernel_rfl)) mix_ok ((e102 p0 p1 h Q).mpr hk)
def a103 : Ann := { prom := 0, refs := [], dyn := 0, bcd := fun s => match s with | _ => none, eqs := memL eqL, cdc := cdcs, res := ress, pure := memL [97], pan := memL [122, 137] }
def n103 : An := (.seq (.reg []) (.seq (.join [(11, false, cB)] 4088 (.reg []) (.cond (.seq (.reg []) .leaf) .leaf)) (.seq (.reg []) (.seq (.reg []) .leaf))))
/-- (*consols/sess.Sess).Cut -/
def F103 (p0 : Option Addr) (h : Hp) (Q : Bool → Hp → Prop) : Prop :=
  joinP (fun (t1 : Bool) (h1 : Hp) => condP t1 (Q false h1) (nilP p0 fun (a1 : Addr) => storeP cB { block := a1.block, off := a1.off + (1 : Nat) : Addr } false h1 fun (h2 : Hp) => Q true h2)) fun (J1 : Bool → Hp → Prop) =>
    condP p0.isNone (J1 true h) (nilP p0 fun (a2 : Addr) => loadP cB { block := a2.block, off := a2.off + (1 : Nat) : Addr } h fun (t2 : Bool) => J1 (!t2) h)
theorem e103 (p0 : Option Addr) (h : Hp) (Q : Bool → Hp → Prop) : fnD a103 Try.prog 103 n103 (cB) [Value.pointer p0] h Q = F103 p0 h Q := by kernel_rfl
theorem c103 {p0 : Option Addr} {h : Hp} {Q : Bool → Hp → Prop} (hk : F103 p0 h Q) : callP Try.prog 103 [Value.pointer p0] (cB) h Q :=
  spec_of (prem_of prog_ok dep_ok eqs_ok rfl (by kernel_rfl)) mix_ok ((e103 p0 h Q).mpr hk)
def a104 : Ann := { prom := 0, refs := [], dyn := 0, bcd := fun s => match s with | _ => none, eqs := memL eqL, cdc := cdcs, res := ress, pure := memL [97], pan := memL [122, 137] }
def n104 : An := (.seq (.reg []) (.seq (.join [(8, false, cB)] 504 (.reg []) (.cond (.seq (.reg []) .leaf) .leaf)) (.seq (.reg []) .leaf)))
/-- consols/consolsref10.New -/
def F104 (p0 : Int) (h : Hp) (Q : Option Addr → Hp → Prop) : Prop :=
  joinP
    (fun (t1 : Bool) (h1 : Hp) =>
      condP t1 (Q none h1)
        (allocP (Obj.cells { toList := [Value.slice none (0 : Nat) (0 : Nat)] : Array Value } (43 : Nat)) h1 fun (k1 : Nat) (h2 : Hp) =>
          allocP
            (Obj.cells
              {
                toList :=
                  [Value.int IntKind.i64 p0, Value.bool false, Value.int IntKind.i64 (1 : Int), Value.pointer (some { block := k1, off := (0 : Nat) : Addr }), Value.int IntKind.i64 (0 : Int), Value.int IntKind.i64 (0 : Int),
                    Value.int IntKind.i64 (0 : Int)] :
                Array Value }
              (125 : Nat))
            h2 fun (k2 : Nat) (h3 : Hp) => Q (some { block := k2, off := (0 : Nat) : Addr }) h3))
    fun (J1 : Bool → Hp → Prop) => condP (decide (p0 < (1 : Int))) (J1 true h) (J1 (decide (p0 > (1000 : Int))) h)
theorem e104 (p0 : Int) (h : Hp) (Q : Option Addr → Hp → Prop) : fnD a104 Try.prog 104 n104 (cP) [Value.int IntKind.i64 p0] h Q = F104 p0 h Q := by kernel_rfl
theorem c104 {p0 : Int} {h : Hp} {Q : Option Addr → Hp → Prop} (hk : F104 p0 h Q) : callP Try.prog 104 [Value.int IntKind.i64 p0] (cP) h Q :=
  spec_of (prem_of prog_ok dep_ok eqs_ok rfl (by kernel_rfl)) mix_ok ((e104 p0 h Q).mpr hk)
def a105 : Ann := { prom := 40, refs := [(13, 3), (14, 3), (16, 3), (25, 3), (26, 3), (27, 3), (44, 3), (49, 3), (61, 3), (70, 3), (84, 3)], dyn := 0, bcd := fun s => match s with | 3 => some (cFrame) | 5 => some (cMsg) | _ => none, eqs := memL eqL, cdc := cdcs, res := ress, pure := memL [97], pan := memL [122, 137] }
def n105 : An := (.seq (.reg []) (.seq (.reg []) (.seq (.join [(22, false, cB)] 8323072 (.reg []) (.cond (.seq (.reg []) (.seq (.reg []) .leaf)) .leaf)) (.seq (.seq (.reg []) (.cond (.seq (.reg []) .leaf) .leaf)) (.seq (.reg []) (.seq (.seq (.reg []) (.cond (.seq (.reg []) (.seq (.reg []) .leaf)) .leaf)) (.seq (.join [(68, false, cB)] 590151695170629795840 (.reg [(0, []), (1, []), (2, []), (3, []), (4, []), (5, []), (6, []), (7, []), (8, []), (9, []), (10, []), (11, [])]) (.cond (.seq (.reg []) .leaf) .leaf)) (.seq (.seq (.reg [(0, []), (1, []), (2, []), (3, []), (4, []), (5, []), (6, [])]) (.cond (.seq (.reg []) (.seq (.reg [(0, []), (1, []), (2, []), (3, []), (4, []), (5, [])]) .leaf)) .leaf)) (.seq (.seq (.reg [(0, []), (1, []), (2, []), (4, []), (5, []), (6, []), (3, []), (7, []), (8, [])]) (.cond (.seq (.reg []) .leaf) .leaf)) (.seq (.reg []) (.seq (.reg []) .leaf)))))))))))
/-- (*consols/consolsref10.Sess).Take -/
def F105 (p0 : Option Addr) (p1 : Frame) (h : Hp) (Q : Sl × Msg × Bool × Bool → Hp → Prop) : Prop :=
  joinP
    (fun (t1 : Bool) (h1 : Hp) =>
      condP t1
        (atP (6 : Nat) (0 : Int)
          (callP Try.prog (138 : Nat) [Value.pointer p0, Value.int IntKind.i64 p1.Msg_F_0] (tupC [cSl, cB]) h1 fun (z1 : Sl × Bool) (h2 : Hp) =>
            Q (z1.fst, { Kind := (0 : Int), F_0 := (0 : Int), F_1 := (0 : Int), F_2 := (0 : Int), F_3 := (0 : Int), F_4 := (0 : Int), F_5 := (0 : Int) : Msg }, false, z1.snd) h2))
        (nilP p0 fun (a1 : Addr) =>
          loadP cB { block := a1.block, off := a1.off + (1 : Nat) : Addr } h1 fun (t2 : Bool) =>
            condP (!t2) (Q ({ a := none, len := (0 : Nat), cap := (0 : Nat) : Sl }, { Kind := (0 : Int), F_0 := (0 : Int), F_1 := (0 : Int), F_2 := (0 : Int), F_3 := (0 : Int), F_4 := (0 : Int), F_5 := (0 : Int) : Msg }, false, false) h1)
              (nilP p0 fun (a2 : Addr) =>
                storeP (cI IntKind.i64) { block := a2.block, off := a2.off + (5 : Nat) : Addr } (0 : Int) h1 fun (h3 : Hp) =>
                  condP (p1.Seq == (0 : Int))
                    (callP Try.prog (139 : Nat)
                      [Value.pointer p0,
                        Value.agg
                          {
                            toList :=
                              [Value.int IntKind.i64 p1.Msg_Kind, Value.int IntKind.i64 p1.Msg_F_0, Value.int IntKind.i64 p1.Msg_F_1, Value.int IntKind.i64 p1.Msg_F_2, Value.int IntKind.i64 p1.Msg_F_3, Value.int IntKind.i64 p1.Msg_F_4,
                                Value.int IntKind.i64 p1.Msg_F_5] :
                            Array Value }]
                      (tupC [cSl, cB]) h3 fun (z2 : Sl × Bool) (h4 : Hp) =>
                      Q (z2.fst, { Kind := (0 : Int), F_0 := (0 : Int), F_1 := (0 : Int), F_2 := (0 : Int), F_3 := (0 : Int), F_4 := (0 : Int), F_5 := (0 : Int) : Msg }, false, z2.snd) h4)
                    (joinP
                      (fun (t3 : Bool) (h5 : Hp) =>
                        condP t3
                          (Q ({ a := none, len := (0 : Nat), cap := (0 : Nat) : Sl }, { Kind := (0 : Int), F_0 := (0 : Int), F_1 := (0 : Int), F_2 := (0 : Int), F_3 := (0 : Int), F_4 := (0 : Int), F_5 := (0 : Int) : Msg }, false, false) h5)
                          (nilP p0 fun (a3 : Addr) =>
                            loadP (cI IntKind.i64) { block := a3.block, off := a3.off + (2 : Nat) : Addr } h5 fun (n1 : Int) =>
                              condP (p1.Seq == n1)
                                (nilP p0 fun (a4 : Addr) =>
                                  loadP (cI IntKind.i64) { block := a4.block, off := a4.off + (2 : Nat) : Addr } h5 fun (n2 : Int) =>
                                    nilP p0 fun (a5 : Addr) =>
                                      storeP (cI IntKind.i64) { block := a5.block, off := a5.off + (2 : Nat) : Addr } (IntKind.i64.wrap (n2 + (1 : Int))) h5 fun (h6 : Hp) =>
                                        Q
                                          ({ a := none, len := (0 : Nat), cap := (0 : Nat) : Sl },
                                            { Kind := p1.Msg_Kind, F_0 := p1.Msg_F_0, F_1 := p1.Msg_F_1, F_2 := p1.Msg_F_2, F_3 := p1.Msg_F_3, F_4 := p1.Msg_F_4, F_5 := p1.Msg_F_5 : Msg }, true, false)
                                          h6)
                                (nilP p0 fun (a6 : Addr) =>
                                  nilP p0 fun (a7 : Addr) =>
                                    loadP (cI IntKind.i64) { block := a6.block, off := a6.off + (6 : Nat) : Addr } h5 fun (n3 : Int) =>
                                      loadP (cI IntKind.i64) { block := a7.block, off := a7.off + (2 : Nat) : Addr } h5 fun (n4 : Int) =>
                                        condP (n3 == n4)
                                          (Q
                                            ({ a := none, len := (0 : Nat), cap := (0 : Nat) : Sl }, { Kind := (0 : Int), F_0 := (0 : Int), F_1 := (0 : Int), F_2 := (0 : Int), F_3 := (0 : Int), F_4 := (0 : Int), F_5 := (0 : Int) : Msg },
                                              false, false)
                                            h5)
                                          (nilP p0 fun (a8 : Addr) =>
                                            loadP (cI IntKind.i64) { block := a8.block, off := a8.off + (2 : Nat) : Addr } h5 fun (n5 : Int) =>
                                              nilP p0 fun (a9 : Addr) =>
                                                storeP (cI IntKind.i64) { block := a9.block, off := a9.off + (6 : Nat) : Addr } n5 h5 fun (h7 : Hp) =>
                                                  nilP p0 fun (a10 : Addr) =>
                                                    storeP (cI IntKind.i64) { block := a10.block, off := a10.off + (4 : Nat) : Addr } (0 : Int) h7 fun (h8 : Hp) =>
                                                      nilP p0 fun (a11 : Addr) =>
                                                        loadP (cI IntKind.i64) { block := a11.block, off := a11.off + (2 : Nat) : Addr } h8 fun (n6 : Int) =>
                                                          allocP (Obj.cells { toList := [Value.int IntKind.i64 n6] : Array Value } (2 : Nat)) h8 fun (k1 : Nat) (h9 : Hp) =>
                                                            callP Try.prog (140 : Nat) [Value.int IntKind.i64 (4 : Int), Value.slice (some { block := k1, off := (0 : Nat) : Addr }) (1 : Nat) (1 : Nat)] cFrame h9
                                                              fun (x1 : Frame) (h10 : Hp) =>
                                                              allocP
                                                                (Obj.cells
                                                                  {
                                                                    toList :=
                                                                      [Value.int IntKind.i64 x1.Seq, Value.int IntKind.i64 x1.Msg_Kind, Value.int IntKind.i64 x1.Msg_F_0, Value.int IntKind.i64 x1.Msg_F_1, Value.int IntKind.i64 x1.Msg_F_2,
                                                                        Value.int IntKind.i64 x1.Msg_F_3, Value.int IntKind.i64 x1.Msg_F_4, Value.int IntKind.i64 x1.Msg_F_5] :
                                                                    Array Value }
                                                                  (48 : Nat))
                                                                h10 fun (k2 : Nat) (h11 : Hp) =>
                                                                Q
                                                                  ({ a := some { block := k2, off := (0 : Nat) : Addr }, len := (1 : Nat), cap := (1 : Nat) : Sl },
                                                                    { Kind := (0 : Int), F_0 := (0 : Int), F_1 := (0 : Int), F_2 := (0 : Int), F_3 := (0 : Int), F_4 := (0 : Int), F_5 := (0 : Int) : Msg }, false, false)
                                                                  h11))))
                      fun (J1 : Bool → Hp → Prop) =>
                      callP Try.prog (101 : Nat) [Value.int IntKind.i64 p1.Msg_Kind] cB h3 fun (t4 : Bool) (h12 : Hp) =>
                        condP (!t4) (J1 true h12) (nilP p0 fun (a12 : Addr) => loadP (cI IntKind.i64) { block := a12.block, off := a12.off + (2 : Nat) : Addr } h12 fun (n7 : Int) => J1 (decide (p1.Seq < n7)) h12)))))
    fun (J2 : Bool → Hp → Prop) => condP (p1.Seq == (0 : Int)) (J2 (p1.Msg_Kind == (1 : Int)) h) (J2 false h)
theorem e105 (p0 : Option Addr) (p1 : Frame) (h : Hp) (Q : Sl × Msg × Bool × Bool → Hp → Prop) : fnD a105 Try.prog 105 n105 (tupC [cSl, cMsg, cB, cB]) [Value.pointer p0, cFrame.enc p1] h Q = F105 p0 p1 h Q := by kernel_rfl
theorem c105 {p0 : Option Addr} {p1 : Frame} {h : Hp} {Q : Sl × Msg × Bool × Bool → Hp → Prop} (hk : F105 p0 p1 h Q) : callP Try.prog 105 [Value.pointer p0, cFrame.enc p1] (tupC [cSl, cMsg, cB, cB]) h Q :=
  spec_of (prem_of prog_ok dep_ok eqs_ok rfl (by kernel_rfl)) mix_ok ((e105 p0 p1 h Q).mpr hk)
def a106 : Ann := { prom := 88, refs := [(11, 3)], dyn := 0, bcd := fun s => match s with | 3 => some (cMsg) | 4 => some (cFrame) | 6 => some (cFrame) | _ => none, eqs := memL eqL, cdc := cdcs, res := ress, pure := memL [97], pan := memL [122, 137] }
def n106 : An := (.seq (.reg []) (.seq (.join [(14, false, cB)] 32640 (.reg []) (.cond (.seq (.reg []) .leaf) .leaf)) (.seq (.reg [(0, []), (1, []), (2, []), (4, []), (6, []), (3, []), (5, []), (7, [])]) (.join [] 532676608 (.seq (.reg []) (.cond (.reg []) .leaf)) (.seq (.reg [(0, []), (1, []), (2, []), (3, []), (5, []), (4, []), (6, [])]) .leaf)))))
/-- (*consols/consolsref10.Sess).Send -/
def F106 (p0 : Option Addr) (p1 : Msg) (h : Hp) (Q : Frame × Bool → Hp → Prop) : Prop :=
  joinP
    (fun (t1 : Bool) (h1 : Hp) =>
      condP t1 (Q ({ Seq := (0 : Int), Msg_Kind := (0 : Int), Msg_F_0 := (0 : Int), Msg_F_1 := (0 : Int), Msg_F_2 := (0 : Int), Msg_F_3 := (0 : Int), Msg_F_4 := (0 : Int), Msg_F_5 := (0 : Int) : Frame }, false) h1)
        (nilP p0 fun (a1 : Addr) =>
          loadP cP { block := a1.block, off := a1.off + (3 : Nat) : Addr } h1 fun (p1_1 : Option Addr) =>
            callP Try.prog (50 : Nat)
              [Value.pointer p1_1,
                Value.agg
                  {
                    toList :=
                      [Value.int IntKind.i64 p1.Kind, Value.int IntKind.i64 p1.F_0, Value.int IntKind.i64 p1.F_1, Value.int IntKind.i64 p1.F_2, Value.int IntKind.i64 p1.F_3, Value.int IntKind.i64 p1.F_4, Value.int IntKind.i64 p1.F_5] :
                    Array Value }]
              cFrame h1 fun (x1 : Frame) (h2 : Hp) =>
              joinP (fun (u1 : PUnit) (h3 : Hp) => nilP p0 fun (a2 : Addr) => loadP cB { block := a2.block, off := a2.off + (1 : Nat) : Addr } h3 fun (t2 : Bool) => Q (x1, t2) h3) fun (J1 : PUnit → Hp → Prop) =>
                nilP p0 fun (a3 : Addr) =>
                  loadP cB { block := a3.block, off := a3.off + (1 : Nat) : Addr } h2 fun (t3 : Bool) =>
                    condP t3 (nilP p0 fun (a4 : Addr) => storeP (cI IntKind.i64) { block := a4.block, off := a4.off + (4 : Nat) : Addr } (0 : Int) h2 fun (h4 : Hp) => J1 PUnit.unit h4) (J1 PUnit.unit h2)))
    fun (J2 : Bool → Hp → Prop) =>
    callP Try.prog (92 : Nat)
      [Value.agg
          { toList := [Value.int IntKind.i64 p1.Kind, Value.int IntKind.i64 p1.F_0, Value.int IntKind.i64 p1.F_1, Value.int IntKind.i64 p1.F_2, Value.int IntKind.i64 p1.F_3, Value.int IntKind.i64 p1.F_4, Value.int IntKind.i64 p1.F_5] :
            Array Value }]
      cB h fun (t4 : Bool) (h5 : Hp) => condP (!t4) (J2 true h5) (callP Try.prog (99 : Nat) [Value.int IntKind.i64 p1.Kind] cB h5 fun (t5 : Bool) (h6 : Hp) => J2 t5 h6)
theorem e106 (p0 : Option Addr) (p1 : Msg) (h : Hp) (Q : Frame × Bool → Hp → Prop) : fnD a106 Try.prog 106 n106 (tupC [cFrame, cB]) [Value.pointer p0, cMsg.enc p1] h Q = F106 p0 p1 h Q := by kernel_rfl
theorem c106 {p0 : Option Addr} {p1 : Msg} {h : Hp} {Q : Frame × Bool → Hp → Prop} (hk : F106 p0 p1 h Q) : callP Try.prog 106 [Value.pointer p0, cMsg.enc p1] (tupC [cFrame, cB]) h Q :=
  spec_of (prem_of prog_ok dep_ok eqs_ok rfl (by kernel_rfl)) mix_ok ((e106 p0 p1 h Q).mpr hk)
def a107 : Ann := { prom := 0, refs := [], dyn := 0, bcd := fun s => match s with | _ => none, eqs := memL eqL, cdc := cdcs, res := ress, pure := memL [97], pan := memL [122, 137] }
def n107 : An := (.seq (.reg []) (.seq (.reg []) (.seq (.reg []) (.seq (.reg []) .leaf))))
/-- (*consols/consolsref10.Sess).Cut -/
def F107 (p0 : Option Addr) (h : Hp) (Q : Bool → Hp → Prop) : Prop :=
  nilP p0 fun (a1 : Addr) => loadP cB { block := a1.block, off := a1.off + (1 : Nat) : Addr } h fun (t1 : Bool) => nilP p0 fun (a2 : Addr) => storeP cB { block := a2.block, off := a2.off + (1 : Nat) : Addr } false h fun (h1 : Hp) => Q t1 h1
theorem e107 (p0 : Option Addr) (h : Hp) (Q : Bool → Hp → Prop) : fnD a107 Try.prog 107 n107 (cB) [Value.pointer p0] h Q = F107 p0 h Q := by kernel_rfl
theorem c107 {p0 : Option Addr} {h : Hp} {Q : Bool → Hp → Prop} (hk : F107 p0 h Q) : callP Try.prog 107 [Value.pointer p0] (cB) h Q :=
  spec_of (prem_of prog_ok dep_ok eqs_ok rfl (by kernel_rfl)) mix_ok ((e107 p0 h Q).mpr hk)
def a108 : Ann := { prom := 0, refs := [], dyn := 0, bcd := fun s => match s with | _ => none, eqs := memL eqL, cdc := cdcs, res := ress, pure := memL [97], pan := memL [122, 137] }
def n108 : An := (.seq (.reg []) (.seq (.seq (.reg []) (.cond (.seq (.reg []) .leaf) .leaf)) (.seq (.reg []) (.seq (.reg []) (.seq (.block (.seq (.reg [(0, []), (1, []), (2, []), (4, []), (5, []), (6, []), (3, []), (7, []), (8, []), (9, []), (10, [])]) (.cond (.seq (.reg []) (.seq (.reg []) .leaf)) (.seq (.reg [(0, []), (1, []), (2, []), (4, []), (5, []), (6, []), (3, []), (7, []), (8, []), (9, []), (10, [])]) (.cond (.seq (.reg []) (.seq (.reg []) .leaf)) (.seq (.reg [(0, []), (1, []), (2, []), (4, []), (5, []), (6, []), (3, []), (7, []), (8, []), (9, [])]) (.cond (.seq (.reg []) (.seq (.reg []) .leaf)) .leaf))))))) (.seq (.reg []) .leaf))))))
/-- (*consols/consolsref10.Sess).Tick -/
def F108 (p0 : Option Addr) (h : Hp) (Q : Sl × Bool → Hp → Prop) : Prop :=
  nilP p0 fun (a1 : Addr) =>
    loadP cB { block := a1.block, off := a1.off + (1 : Nat) : Addr } h fun (t1 : Bool) =>
      condP (!t1) (Q ({ a := none, len := (0 : Nat), cap := (0 : Nat) : Sl }, false) h)
        (nilP p0 fun (a2 : Addr) =>
          loadP (cI IntKind.i64) { block := a2.block, off := a2.off + (4 : Nat) : Addr } h fun (n1 : Int) =>
            nilP p0 fun (a3 : Addr) =>
              storeP (cI IntKind.i64) { block := a3.block, off := a3.off + (4 : Nat) : Addr } (IntKind.i64.wrap (n1 + (1 : Int))) h fun (h1 : Hp) =>
                nilP p0 fun (a4 : Addr) =>
                  loadP (cI IntKind.i64) { block := a4.block, off := a4.off + (5 : Nat) : Addr } h1 fun (n2 : Int) =>
                    nilP p0 fun (a5 : Addr) =>
                      storeP (cI IntKind.i64) { block := a5.block, off := a5.off + (5 : Nat) : Addr } (IntKind.i64.wrap (n2 + (1 : Int))) h1 fun (h2 : Hp) =>
                        nilP p0 fun (a6 : Addr) =>
                          nilP p0 fun (a7 : Addr) =>
                            loadP (cI IntKind.i64) { block := a6.block, off := a6.off + (5 : Nat) : Addr } h2 fun (n3 : Int) =>
                              loadP (cI IntKind.i64) (a7.add (0 : Nat)) h2 fun (n4 : Int) =>
                                condP (n3 == IntKind.i64.wrap ((3 : Int) * n4))
                                  (nilP p0 fun (a8 : Addr) =>
                                    storeP cB { block := a8.block, off := a8.off + (1 : Nat) : Addr } false h2 fun (h3 : Hp) =>
                                      callP Try.prog (140 : Nat) [Value.int IntKind.i64 (5 : Int), Value.slice none (0 : Nat) (0 : Nat)] cFrame h3 fun (x1 : Frame) (h4 : Hp) =>
                                        allocP
                                          (Obj.cells
                                            {
                                              toList :=
                                                [Value.int IntKind.i64 x1.Seq, Value.int IntKind.i64 x1.Msg_Kind, Value.int IntKind.i64 x1.Msg_F_0, Value.int IntKind.i64 x1.Msg_F_1, Value.int IntKind.i64 x1.Msg_F_2,
                                                  Value.int IntKind.i64 x1.Msg_F_3, Value.int IntKind.i64 x1.Msg_F_4, Value.int IntKind.i64 x1.Msg_F_5] :
                                              Array Value }
                                            (48 : Nat))
                                          h4 fun (k1 : Nat) (h5 : Hp) => Q ({ a := some { block := k1, off := (0 : Nat) : Addr }, len := (1 : Nat), cap := (1 : Nat) : Sl }, true) h5)
                                  (nilP p0 fun (a9 : Addr) =>
                                    nilP p0 fun (a10 : Addr) =>
                                      loadP (cI IntKind.i64) { block := a9.block, off := a9.off + (5 : Nat) : Addr } h2 fun (n5 : Int) =>
                                        loadP (cI IntKind.i64) (a10.add (0 : Nat)) h2 fun (n6 : Int) =>
                                          condP (n5 == IntKind.i64.wrap ((2 : Int) * n6))
                                            (nilP p0 fun (a11 : Addr) =>
                                              storeP (cI IntKind.i64) { block := a11.block, off := a11.off + (4 : Nat) : Addr } (0 : Int) h2 fun (h6 : Hp) =>
                                                callP Try.prog (140 : Nat) [Value.int IntKind.i64 (3 : Int), Value.slice none (0 : Nat) (0 : Nat)] cFrame h6 fun (x2 : Frame) (h7 : Hp) =>
                                                  allocP
                                                    (Obj.cells
                                                      {
                                                        toList :=
                                                          [Value.int IntKind.i64 x2.Seq, Value.int IntKind.i64 x2.Msg_Kind, Value.int IntKind.i64 x2.Msg_F_0, Value.int IntKind.i64 x2.Msg_F_1, Value.int IntKind.i64 x2.Msg_F_2,
                                                            Value.int IntKind.i64 x2.Msg_F_3, Value.int IntKind.i64 x2.Msg_F_4, Value.int IntKind.i64 x2.Msg_F_5] :
                                                        Array Value }
                                                      (48 : Nat))
                                                    h7 fun (k2 : Nat) (h8 : Hp) => Q ({ a := some { block := k2, off := (0 : Nat) : Addr }, len := (1 : Nat), cap := (1 : Nat) : Sl }, false) h8)
                                            (nilP p0 fun (a12 : Addr) =>
                                              nilP p0 fun (a13 : Addr) =>
                                                loadP (cI IntKind.i64) { block := a12.block, off := a12.off + (4 : Nat) : Addr } h2 fun (n7 : Int) =>
                                                  loadP (cI IntKind.i64) (a13.add (0 : Nat)) h2 fun (n8 : Int) =>
                                                    condP (decide (n7 ≥ n8))
                                                      (nilP p0 fun (a14 : Addr) =>
                                                        storeP (cI IntKind.i64) { block := a14.block, off := a14.off + (4 : Nat) : Addr } (0 : Int) h2 fun (h9 : Hp) =>
                                                          callP Try.prog (140 : Nat) [Value.int IntKind.i64 (2 : Int), Value.slice none (0 : Nat) (0 : Nat)] cFrame h9 fun (x3 : Frame) (h10 : Hp) =>
                                                            allocP
                                                              (Obj.cells
                                                                {
                                                                  toList :=
                                                                    [Value.int IntKind.i64 x3.Seq, Value.int IntKind.i64 x3.Msg_Kind, Value.int IntKind.i64 x3.Msg_F_0, Value.int IntKind.i64 x3.Msg_F_1, Value.int IntKind.i64 x3.Msg_F_2,
                                                                      Value.int IntKind.i64 x3.Msg_F_3, Value.int IntKind.i64 x3.Msg_F_4, Value.int IntKind.i64 x3.Msg_F_5] :
                                                                  Array Value }
                                                                (48 : Nat))
                                                              h10 fun (k3 : Nat) (h11 : Hp) => Q ({ a := some { block := k3, off := (0 : Nat) : Addr }, len := (1 : Nat), cap := (1 : Nat) : Sl }, false) h11)
                                                      (Q ({ a := none, len := (0 : Nat), cap := (0 : Nat) : Sl }, false) h2))))
theorem e108 (p0 : Option Addr) (h : Hp) (Q : Sl × Bool → Hp → Prop) : fnD a108 Try.prog 108 n108 (tupC [cSl, cB]) [Value.pointer p0] h Q = F108 p0 h Q := by kernel_rfl
theorem c108 {p0 : Option Addr} {h : Hp} {Q : Sl × Bool → Hp → Prop} (hk : F108 p0 h Q) : callP Try.prog 108 [Value.pointer p0] (tupC [cSl, cB]) h Q :=
  spec_of (prem_of prog_ok dep_ok eqs_ok rfl (by kernel_rfl)) mix_ok ((e108 p0 h Q).mpr hk)
def a133 : Ann := { prom := 0, refs := [], dyn := 0, bcd := fun s => match s with | _ => none, eqs := memL eqL, cdc := cdcs, res := ress, pure := memL [97], pan := memL [122, 137] }
def n133 : An := (.seq (.reg []) (.seq (.reg []) (.seq (.reg []) (.seq (.seq (.reg []) (.cond (.seq (.reg []) .leaf) .leaf)) (.seq (.reg []) (.seq (.reg []) .leaf))))))
/-- (*consols/sess.Sess).logs -/
def F133 (p0 : Option Addr) (p1 : Int) (h : Hp) (Q : Sl × Bool → Hp → Prop) : Prop :=
  nilP p0 fun (a1 : Addr) =>
    loadP cP { block := a1.block, off := a1.off + (3 : Nat) : Addr } h fun (p1_1 : Option Addr) =>
      callP Try.prog (51 : Nat) [Value.pointer p1_1, Value.int IntKind.i64 p1] (tupC [cSl, cB]) h fun (z1 : Sl × Bool) (h1 : Hp) =>
        nilP p0 fun (a2 : Addr) =>
          storeP cB { block := a2.block, off := a2.off + (1 : Nat) : Addr } z1.snd h1 fun (h2 : Hp) =>
            condP (!z1.snd) (Q ({ a := none, len := (0 : Nat), cap := (0 : Nat) : Sl }, false) h2)
              (nilP p0 fun (a3 : Addr) =>
                storeP (cI IntKind.i64) { block := a3.block, off := a3.off + (6 : Nat) : Addr } (0 : Int) h2 fun (h3 : Hp) =>
                  nilP p0 fun (a4 : Addr) =>
                    storeP (cI IntKind.i64) { block := a4.block, off := a4.off + (4 : Nat) : Addr } (0 : Int) h3 fun (h4 : Hp) =>
                      nilP p0 fun (a5 : Addr) =>
                        loadP (cI IntKind.i64) { block := a5.block, off := a5.off + (2 : Nat) : Addr } h4 fun (n1 : Int) =>
                          callP Try.prog (135 : Nat) [Value.int IntKind.i64 (1 : Int), Value.int IntKind.i64 n1] cFrame h4 fun (x1 : Frame) (h5 : Hp) =>
                            allocP
                              (Obj.cells
                                {
                                  toList :=
                                    [Value.int IntKind.i64 x1.Seq, Value.int IntKind.i64 x1.Msg_Kind, Value.int IntKind.i64 x1.Msg_F_0, Value.int IntKind.i64 x1.Msg_F_1, Value.int IntKind.i64 x1.Msg_F_2, Value.int IntKind.i64 x1.Msg_F_3,
                                      Value.int IntKind.i64 x1.Msg_F_4, Value.int IntKind.i64 x1.Msg_F_5] :
                                  Array Value }
                                (48 : Nat))
                              h5 fun (k1 : Nat) (h6 : Hp) =>
                              appendP cFrame (48 : Nat) (64 : Nat) (some { block := k1, off := (0 : Nat) : Addr }) (1 : Nat) (1 : Nat) z1.fst.a z1.fst.len h6 fun (p2 : Option Addr) (k2 k3 : Nat) (h7 : Hp) =>
                                Q ({ a := p2, len := k2, cap := k3 : Sl }, true) h7)
theorem e133 (p0 : Option Addr) (p1 : Int) (h : Hp) (Q : Sl × Bool → Hp → Prop) : fnD a133 Try.prog 133 n133 (tupC [cSl, cB]) [Value.pointer p0, Value.int IntKind.i64 p1] h Q = F133 p0 p1 h Q := by kernel_rfl
theorem c133 {p0 : Option Addr} {p1 : Int} {h : Hp} {Q : Sl × Bool → Hp → Prop} (hk : F133 p0 p1 h Q) : callP Try.prog 133 [Value.pointer p0, Value.int IntKind.i64 p1] (tupC [cSl, cB]) h Q :=
  spec_of (prem_of prog_ok dep_ok eqs_ok rfl (by kernel_rfl)) mix_ok ((e133 p0 p1 h Q).mpr hk)
def a134 : Ann := { prom := 40, refs := [(8, 3), (12, 3), (17, 3), (18, 3), (24, 3), (38, 3), (41, 3)], dyn := 0, bcd := fun s => match s with | 3 => some (cFrame) | 5 => some (cMsg) | _ => none, eqs := memL eqL, cdc := cdcs, res := ress, pure := memL [97], pan := memL [122, 137] }
def n134 : An := (.seq (.reg []) (.seq (.block (.seq (.reg []) (.cond (.seq (.reg []) .leaf) (.seq (.reg []) (.cond (.seq (.reg []) .leaf) (.seq (.reg [(0, []), (1, []), (2, []), (3, []), (4, []), (5, []), (6, []), (7, [])]) (.cond (.seq (.reg []) (.seq (.reg [(0, []), (1, []), (2, []), (3, []), (4, [])]) .leaf)) (.join [(40, false, cB)] 576459652791795712 (.reg [(0, []), (1, []), (2, []), (3, []), (4, []), (5, []), (6, []), (7, []), (8, []), (9, []), (10, []), (12, []), (13, []), (14, []), (11, []), (15, []), (16, []), (17, []), (18, [])]) (.cond (.seq (.reg []) (.seq (.reg []) .leaf)) .leaf))))))))) (.seq (.reg []) .leaf)))
/-- (*consols/sess.Sess).takes -/
def F134 (p0 : Option Addr) (p1 : Frame) (h : Hp) (Q : Sl × Msg × Bool → Hp → Prop) : Prop :=
  condP (p1.Seq == (0 : Int))
    (callP Try.prog (146 : Nat)
      [Value.pointer p0,
        Value.agg
          {
            toList :=
              [Value.int IntKind.i64 p1.Msg_Kind, Value.int IntKind.i64 p1.Msg_F_0, Value.int IntKind.i64 p1.Msg_F_1, Value.int IntKind.i64 p1.Msg_F_2, Value.int IntKind.i64 p1.Msg_F_3, Value.int IntKind.i64 p1.Msg_F_4,
                Value.int IntKind.i64 p1.Msg_F_5] :
            Array Value }]
      cSl h fun (s1 : Sl) (h1 : Hp) => Q (s1, { Kind := (0 : Int), F_0 := (0 : Int), F_1 := (0 : Int), F_2 := (0 : Int), F_3 := (0 : Int), F_4 := (0 : Int), F_5 := (0 : Int) : Msg }, false) h1)
    (callP Try.prog (100 : Nat) [Value.int IntKind.i64 p1.Msg_Kind] cB h fun (t1 : Bool) (h2 : Hp) =>
      condP (!t1) (Q ({ a := none, len := (0 : Nat), cap := (0 : Nat) : Sl }, { Kind := (0 : Int), F_0 := (0 : Int), F_1 := (0 : Int), F_2 := (0 : Int), F_3 := (0 : Int), F_4 := (0 : Int), F_5 := (0 : Int) : Msg }, false) h2)
        (nilP p0 fun (a1 : Addr) =>
          loadP (cI IntKind.i64) { block := a1.block, off := a1.off + (2 : Nat) : Addr } h2 fun (n1 : Int) =>
            condP (p1.Seq == n1)
              (nilP p0 fun (a2 : Addr) =>
                loadP (cI IntKind.i64) { block := a2.block, off := a2.off + (2 : Nat) : Addr } h2 fun (n2 : Int) =>
                  nilP p0 fun (a3 : Addr) =>
                    storeP (cI IntKind.i64) { block := a3.block, off := a3.off + (2 : Nat) : Addr } (IntKind.i64.wrap (n2 + (1 : Int))) h2 fun (h3 : Hp) =>
                      Q ({ a := none, len := (0 : Nat), cap := (0 : Nat) : Sl }, { Kind := p1.Msg_Kind, F_0 := p1.Msg_F_0, F_1 := p1.Msg_F_1, F_2 := p1.Msg_F_2, F_3 := p1.Msg_F_3, F_4 := p1.Msg_F_4, F_5 := p1.Msg_F_5 : Msg }, true) h3)
              (joinP
                (fun (t2 : Bool) (h4 : Hp) =>
                  condP t2
                    (nilP p0 fun (a4 : Addr) =>
                      loadP (cI IntKind.i64) { block := a4.block, off := a4.off + (2 : Nat) : Addr } h4 fun (n3 : Int) =>
                        nilP p0 fun (a5 : Addr) =>
                          storeP (cI IntKind.i64) { block := a5.block, off := a5.off + (4 : Nat) : Addr } n3 h4 fun (h5 : Hp) =>
                            nilP p0 fun (a6 : Addr) =>
                              loadP (cI IntKind.i64) { block := a6.block, off := a6.off + (2 : Nat) : Addr } h5 fun (n4 : Int) =>
                                callP Try.prog (135 : Nat) [Value.int IntKind.i64 (4 : Int), Value.int IntKind.i64 n4] cFrame h5 fun (x1 : Frame) (h6 : Hp) =>
                                  allocP
                                    (Obj.cells
                                      {
                                        toList :=
                                          [Value.int IntKind.i64 x1.Seq, Value.int IntKind.i64 x1.Msg_Kind, Value.int IntKind.i64 x1.Msg_F_0, Value.int IntKind.i64 x1.Msg_F_1, Value.int IntKind.i64 x1.Msg_F_2,
                                            Value.int IntKind.i64 x1.Msg_F_3, Value.int IntKind.i64 x1.Msg_F_4, Value.int IntKind.i64 x1.Msg_F_5] :
                                        Array Value }
                                      (48 : Nat))
                                    h6 fun (k1 : Nat) (h7 : Hp) =>
                                    Q
                                      ({ a := some { block := k1, off := (0 : Nat) : Addr }, len := (1 : Nat), cap := (1 : Nat) : Sl },
                                        { Kind := (0 : Int), F_0 := (0 : Int), F_1 := (0 : Int), F_2 := (0 : Int), F_3 := (0 : Int), F_4 := (0 : Int), F_5 := (0 : Int) : Msg }, false)
                                      h7)
                    (Q ({ a := none, len := (0 : Nat), cap := (0 : Nat) : Sl }, { Kind := (0 : Int), F_0 := (0 : Int), F_1 := (0 : Int), F_2 := (0 : Int), F_3 := (0 : Int), F_4 := (0 : Int), F_5 := (0 : Int) : Msg }, false) h4))
                fun (J1 : Bool → Hp → Prop) =>
                nilP p0 fun (a7 : Addr) =>
                  loadP (cI IntKind.i64) { block := a7.block, off := a7.off + (2 : Nat) : Addr } h2 fun (n5 : Int) =>
                    condP (decide (p1.Seq > n5))
                      (nilP p0 fun (a8 : Addr) =>
                        nilP p0 fun (a9 : Addr) =>
                          loadP (cI IntKind.i64) { block := a8.block, off := a8.off + (4 : Nat) : Addr } h2 fun (n6 : Int) =>
                            loadP (cI IntKind.i64) { block := a9.block, off := a9.off + (2 : Nat) : Addr } h2 fun (n7 : Int) => J1 (n6 != n7) h2)
                      (J1 false h2))))
theorem e134 (p0 : Option Addr) (p1 : Frame) (h : Hp) (Q : Sl × Msg × Bool → Hp → Prop) : fnD a134 Try.prog 134 n134 (tupC [cSl, cMsg, cB]) [Value.pointer p0, cFrame.enc p1] h Q = F134 p0 p1 h Q := by kernel_rfl
theorem c134 {p0 : Option Addr} {p1 : Frame} {h : Hp} {Q : Sl × Msg × Bool → Hp → Prop} (hk : F134 p0 p1 h Q) : callP Try.prog 134 [Value.pointer p0, cFrame.enc p1] (tupC [cSl, cMsg, cB]) h Q :=
  spec_of (prem_of prog_ok dep_ok eqs_ok rfl (by kernel_rfl)) mix_ok ((e134 p0 p1 h Q).mpr hk)
def a135 : Ann := { prom := 48, refs := [(9, 5), (10, 5)], dyn := 0, bcd := fun s => match s with | 4 => some (cFrame) | 5 => some (cMsg) | _ => none, eqs := memL eqL, cdc := cdcs, res := ress, pure := memL [97], pan := memL [122, 137] }
def n135 : An := (.seq (.reg []) (.seq (.reg []) (.seq (.reg []) (.seq (.reg []) .leaf))))
/-- consols/sess.own -/
def F135 (p0 : Int) (p1 : Int) (h : Hp) (Q : Frame → Hp → Prop) : Prop :=
  atP (6 : Nat) (0 : Int) (Q { Seq := (0 : Int), Msg_Kind := p0, Msg_F_0 := p1, Msg_F_1 := (0 : Int), Msg_F_2 := (0 : Int), Msg_F_3 := (0 : Int), Msg_F_4 := (0 : Int), Msg_F_5 := (0 : Int) : Frame } h)
theorem e135 (p0 : Int) (p1 : Int) (h : Hp) (Q : Frame → Hp → Prop) : fnD a135 Try.prog 135 n135 (cFrame) [Value.int IntKind.i64 p0, Value.int IntKind.i64 p1] h Q = F135 p0 p1 h Q := by kernel_rfl
theorem c135 {p0 : Int} {p1 : Int} {h : Hp} {Q : Frame → Hp → Prop} (hk : F135 p0 p1 h Q) : callP Try.prog 135 [Value.int IntKind.i64 p0, Value.int IntKind.i64 p1] (cFrame) h Q :=
  spec_of (prem_of prog_ok dep_ok eqs_ok rfl (by kernel_rfl)) mix_ok ((e135 p0 p1 h Q).mpr hk)
def a136 : Ann := { prom := 8, refs := [], dyn := 0, bcd := fun s => match s with | 3 => some (cMsgnone) | _ => none, eqs := memL eqL, cdc := cdcs, res := ress, pure := memL [97], pan := memL [122, 137] }
def n136 : An := (.seq .regX (.cond (.join [] 65304 (.seq .regX (.seq (.reg []) (.cond .regX .leaf))) (.reg [])) .leaf))
/-- consols/msg.Read$1 -/
def F136_0 (p0 : Addr) (p1 : Addr) (h : Hp) (K : Hp → Prop) : Prop :=
 K h
theorem e136_0 (p0 : Addr) (p1 : Addr) (h : Hp) (K : Hp → Prop) : fnRec a136 Try.prog 136 n136 [Value.pointer (some p0), Value.pointer (some p1)] (none) h K = F136_0 p0 p1 h K := by kernel_rfl
theorem c136_0 {p0 : Addr} {p1 : Addr} {h : Hp} {K : Hp → Prop} (hk : F136_0 p0 p1 h K) : deferP Try.prog 136 [Value.pointer (some p0), Value.pointer (some p1)] (none) h K :=
  specRec_of (prem_of prog_ok dep_ok eqs_ok rfl (by kernel_rfl)) mix_ok ((e136_0 p0 p1 h K).mpr hk)
/-- consols/msg.Read$1 -/
def F136_1 (p0 : Addr) (p1 : Addr) (h : Hp) (K : Hp → Prop) : Prop :=
  joinP
    (fun (u1 : PUnit) (h1 : Hp) =>
      storeP cFrame p0 { Seq := (0 : Int), Msg_Kind := (0 : Int), Msg_F_0 := (0 : Int), Msg_F_1 := (0 : Int), Msg_F_2 := (0 : Int), Msg_F_3 := (0 : Int), Msg_F_4 := (0 : Int), Msg_F_5 := (0 : Int) : Frame } h1 fun (h2 : Hp) =>
        storeP (cI IntKind.i64) p1 (2 : Int) h2 fun (h3 : Hp) => K h3)
    fun (J1 : PUnit → Hp → Prop) => J1 PUnit.unit h
theorem e136_1 (p0 : Addr) (p1 : Addr) (h : Hp) (K : Hp → Prop) : fnRec a136 Try.prog 136 n136 [Value.pointer (some p0), Value.pointer (some p1)] (some (.iface 164 (.agg #[]))) h K = F136_1 p0 p1 h K := by kernel_rfl
theorem c136_1 {p0 : Addr} {p1 : Addr} {h : Hp} {K : Hp → Prop} (hk : F136_1 p0 p1 h K) : deferP Try.prog 136 [Value.pointer (some p0), Value.pointer (some p1)] (some (.iface 164 (.agg #[]))) h K :=
  specRec_of (prem_of prog_ok dep_ok eqs_ok rfl (by kernel_rfl)) mix_ok ((e136_1 p0 p1 h K).mpr hk)
def a137 : Ann := { prom := 0, refs := [], dyn := 0, bcd := fun s => match s with | _ => none, eqs := memL eqL, cdc := cdcs, res := ress, pure := memL [97], pan := memL [122, 137] }
def n137 : An := (.seq (.reg []) (.seq (.reg []) (.join [] 122880 (.seq (.reg []) (.cond .regX .leaf)) (.seq (.reg [(0, []), (1, []), (2, []), (3, []), (4, []), (5, [])]) .leaf))))
/-- consols/msg.must -/
def F137 (p0 : Sl) (h : Hp) (Q : Int × Sl → Hp → Prop) (S : Value → Hp → Prop) : Prop :=
  callP Try.prog (68 : Nat) [Value.slice p0.a p0.len p0.cap] (tupC [cI IntKind.i64, cI IntKind.i64, cB]) h fun (z1 : Int × Int × Bool) (h1 : Hp) =>
    joinP (fun (u1 : PUnit) (h2 : Hp) => cutP p0.len p0.cap (some z1.snd.fst) none fun (k1 k2 : Nat) => Q (z1.fst, { a := cutA p0.a k1 p0.cap (1 : Nat), len := k2 - k1, cap := p0.cap - k1 : Sl }) h2) fun (J1 : PUnit → Hp → Prop) =>
      condP (!z1.snd.snd) (S (Value.iface (164 : Nat) (Value.agg { toList := [] : Array Value })) h1) (J1 PUnit.unit h1)
theorem e137 (p0 : Sl) (h : Hp) (Q : Int × Sl → Hp → Prop) (S : Value → Hp → Prop) : fnX a137 Try.prog 137 n137 (tupC [cI .i64, cSl]) [Value.slice p0.a p0.len p0.cap] h Q S = F137 p0 h Q S := by kernel_rfl
theorem c137 {p0 : Sl} {h : Hp} {Q : Int × Sl → Hp → Prop} {S : Value → Hp → Prop} (hk : F137 p0 h Q S) : callXP Try.prog 137 [Value.slice p0.a p0.len p0.cap] (tupC [cI .i64, cSl]) h Q S :=
  specX_of (prem_of prog_ok dep_ok eqs_ok rfl (by kernel_rfl)) mix_ok ((e137 p0 h Q S).mpr hk)
def a138 : Ann := { prom := 0, refs := [], dyn := 0, bcd := fun s => match s with | _ => none, eqs := memL eqL, cdc := cdcs, res := ress, pure := memL [97], pan := memL [122, 137] }
def n138 : An := (.seq (.reg []) (.seq (.reg []) (.seq (.seq (.reg []) (.cond (.seq (.reg []) (.seq (.reg []) (.seq (.reg []) .leaf))) .leaf)) (.seq (.reg []) (.seq (.reg []) .leaf)))))
/-- (*consols/consolsref10.Sess).logon -/
def F138 (p0 : Option Addr) (p1 : Int) (h : Hp) (Q : Sl × Bool → Hp → Prop) : Prop :=
  nilP p0 fun (a1 : Addr) =>
    loadP cP { block := a1.block, off := a1.off + (3 : Nat) : Addr } h fun (p1_1 : Option Addr) =>
      callP Try.prog (52 : Nat) [Value.pointer p1_1, Value.int IntKind.i64 p1] (tupC [cSl, cB]) h fun (z1 : Sl × Bool) (h1 : Hp) =>
        condP (!z1.snd)
          (nilP p0 fun (a2 : Addr) =>
            loadP cB { block := a2.block, off := a2.off + (1 : Nat) : Addr } h1 fun (t1 : Bool) =>
              nilP p0 fun (a3 : Addr) => storeP cB { block := a3.block, off := a3.off + (1 : Nat) : Addr } false h1 fun (h2 : Hp) => Q ({ a := none, len := (0 : Nat), cap := (0 : Nat) : Sl }, t1) h2)
          (nilP p0 fun (a4 : Addr) =>
            storeP cB { block := a4.block, off := a4.off + (1 : Nat) : Addr } true h1 fun (h3 : Hp) =>
              nilP p0 fun (a5 : Addr) =>
                storeP (cI IntKind.i64) { block := a5.block, off := a5.off + (4 : Nat) : Addr } (0 : Int) h3 fun (h4 : Hp) =>
                  nilP p0 fun (a6 : Addr) =>
                    storeP (cI IntKind.i64) { block := a6.block, off := a6.off + (5 : Nat) : Addr } (0 : Int) h4 fun (h5 : Hp) =>
                      nilP p0 fun (a7 : Addr) =>
                        storeP (cI IntKind.i64) { block := a7.block, off := a7.off + (6 : Nat) : Addr } (0 : Int) h5 fun (h6 : Hp) =>
                          nilP p0 fun (a8 : Addr) =>
                            loadP (cI IntKind.i64) { block := a8.block, off := a8.off + (2 : Nat) : Addr } h6 fun (n1 : Int) =>
                              allocP (Obj.cells { toList := [Value.int IntKind.i64 n1] : Array Value } (2 : Nat)) h6 fun (k1 : Nat) (h7 : Hp) =>
                                callP Try.prog (140 : Nat) [Value.int IntKind.i64 (1 : Int), Value.slice (some { block := k1, off := (0 : Nat) : Addr }) (1 : Nat) (1 : Nat)] cFrame h7 fun (x1 : Frame) (h8 : Hp) =>
                                  allocP
                                    (Obj.cells
                                      {
                                        toList :=
                                          [Value.int IntKind.i64 x1.Seq, Value.int IntKind.i64 x1.Msg_Kind, Value.int IntKind.i64 x1.Msg_F_0, Value.int IntKind.i64 x1.Msg_F_1, Value.int IntKind.i64 x1.Msg_F_2,
                                            Value.int IntKind.i64 x1.Msg_F_3, Value.int IntKind.i64 x1.Msg_F_4, Value.int IntKind.i64 x1.Msg_F_5] :
                                        Array Value }
                                      (48 : Nat))
                                    h8 fun (k2 : Nat) (h9 : Hp) =>
                                    appendP cFrame (48 : Nat) (64 : Nat) (some { block := k2, off := (0 : Nat) : Addr }) (1 : Nat) (1 : Nat) z1.fst.a z1.fst.len h9 fun (p2 : Option Addr) (k3 k4 : Nat) (h10 : Hp) =>
                                      Q ({ a := p2, len := k3, cap := k4 : Sl }, false) h10)
theorem e138 (p0 : Option Addr) (p1 : Int) (h : Hp) (Q : Sl × Bool → Hp → Prop) : fnD a138 Try.prog 138 n138 (tupC [cSl, cB]) [Value.pointer p0, Value.int IntKind.i64 p1] h Q = F138 p0 p1 h Q := by kernel_rfl
theorem c138 {p0 : Option Addr} {p1 : Int} {h : Hp} {Q : Sl × Bool → Hp → Prop} (hk : F138 p0 p1 h Q) : callP Try.prog 138 [Value.pointer p0, Value.int IntKind.i64 p1] (tupC [cSl, cB]) h Q :=
  spec_of (prem_of prog_ok dep_ok eqs_ok rfl (by kernel_rfl)) mix_ok ((e138 p0 p1 h Q).mpr hk)
def a139 : Ann := { prom := 8, refs := [(8, 3), (24, 3), (25, 3)], dyn := 0, bcd := fun s => match s with | 3 => some (cMsg) | _ => none, eqs := memL eqL, cdc := cdcs, res := ress, pure := memL [97], pan := memL [122, 137] }
def n139 : An := (.seq (.reg []) (.seq (.seq (.reg []) (.block (.seq (.reg []) (.cond (.seq (.reg []) (.seq (.reg []) .leaf)) (.seq (.reg []) (.cond (.seq (.reg [(0, []), (1, []), (2, []), (4, []), (5, []), (6, []), (3, []), (7, []), (8, []), (9, []), (10, []), (11, []), (12, [])]) (.seq (.seq (.reg []) (.cond (.seq (.reg []) (.seq (.reg []) .leaf)) .leaf)) (.join [] 8658654068736 (.seq (.reg []) (.cond (.reg []) .leaf)) (.seq (.reg []) .leaf)))) (.seq (.reg []) (.cond (.seq (.reg []) (.seq (.reg []) .leaf)) .leaf)))))))) (.seq (.reg []) .leaf)))
/-- (*consols/consolsref10.Sess).own -/
def F139 (p0 : Option Addr) (p1 : Msg) (h : Hp) (Q : Sl × Bool → Hp → Prop) : Prop :=
  condP (p1.Kind == (3 : Int))
    (nilP p0 fun (a1 : Addr) =>
      storeP (cI IntKind.i64) { block := a1.block, off := a1.off + (4 : Nat) : Addr } (0 : Int) h fun (h1 : Hp) =>
        callP Try.prog (140 : Nat) [Value.int IntKind.i64 (2 : Int), Value.slice none (0 : Nat) (0 : Nat)] cFrame h1 fun (x1 : Frame) (h2 : Hp) =>
          allocP
            (Obj.cells
              {
                toList :=
                  [Value.int IntKind.i64 x1.Seq, Value.int IntKind.i64 x1.Msg_Kind, Value.int IntKind.i64 x1.Msg_F_0, Value.int IntKind.i64 x1.Msg_F_1, Value.int IntKind.i64 x1.Msg_F_2, Value.int IntKind.i64 x1.Msg_F_3,
                    Value.int IntKind.i64 x1.Msg_F_4, Value.int IntKind.i64 x1.Msg_F_5] :
                Array Value }
              (48 : Nat))
            h2 fun (k1 : Nat) (h3 : Hp) => Q ({ a := some { block := k1, off := (0 : Nat) : Addr }, len := (1 : Nat), cap := (1 : Nat) : Sl }, false) h3)
    (condP (p1.Kind == (4 : Int))
      (nilP p0 fun (a2 : Addr) =>
        atP (6 : Nat) (0 : Int)
          (loadP cP { block := a2.block, off := a2.off + (3 : Nat) : Addr } h fun (p1_1 : Option Addr) =>
            callP Try.prog (52 : Nat) [Value.pointer p1_1, Value.int IntKind.i64 p1.F_0] (tupC [cSl, cB]) h fun (z1 : Sl × Bool) (h4 : Hp) =>
              condP (!z1.snd)
                (nilP p0 fun (a3 : Addr) =>
                  storeP cB { block := a3.block, off := a3.off + (1 : Nat) : Addr } false h4 fun (h5 : Hp) =>
                    callP Try.prog (140 : Nat) [Value.int IntKind.i64 (5 : Int), Value.slice none (0 : Nat) (0 : Nat)] cFrame h5 fun (x2 : Frame) (h6 : Hp) =>
                      allocP
                        (Obj.cells
                          {
                            toList :=
                              [Value.int IntKind.i64 x2.Seq, Value.int IntKind.i64 x2.Msg_Kind, Value.int IntKind.i64 x2.Msg_F_0, Value.int IntKind.i64 x2.Msg_F_1, Value.int IntKind.i64 x2.Msg_F_2, Value.int IntKind.i64 x2.Msg_F_3,
                                Value.int IntKind.i64 x2.Msg_F_4, Value.int IntKind.i64 x2.Msg_F_5] :
                            Array Value }
                          (48 : Nat))
                        h6 fun (k2 : Nat) (h7 : Hp) => Q ({ a := some { block := k2, off := (0 : Nat) : Addr }, len := (1 : Nat), cap := (1 : Nat) : Sl }, true) h7)
                (joinP (fun (u1 : PUnit) (h8 : Hp) => Q (z1.fst, false) h8) fun (J1 : PUnit → Hp → Prop) =>
                  condP (decide ((↑z1.fst.len : Int) > (0 : Int))) (nilP p0 fun (a4 : Addr) => storeP (cI IntKind.i64) { block := a4.block, off := a4.off + (4 : Nat) : Addr } (0 : Int) h4 fun (h9 : Hp) => J1 PUnit.unit h9)
                    (J1 PUnit.unit h4))))
      (condP (p1.Kind == (5 : Int)) (nilP p0 fun (a5 : Addr) => storeP cB { block := a5.block, off := a5.off + (1 : Nat) : Addr } false h fun (h10 : Hp) => Q ({ a := none, len := (0 : Nat), cap := (0 : Nat) : Sl }, true) h10)
        (Q ({ a := none, len := (0 : Nat), cap := (0 : Nat) : Sl }, false) h)))
theorem e139 (p0 : Option Addr) (p1 : Msg) (h : Hp) (Q : Sl × Bool → Hp → Prop) : fnD a139 Try.prog 139 n139 (tupC [cSl, cB]) [Value.pointer p0, cMsg.enc p1] h Q = F139 p0 p1 h Q := by kernel_rfl
theorem c139 {p0 : Option Addr} {p1 : Msg} {h : Hp} {Q : Sl × Bool → Hp → Prop} (hk : F139 p0 p1 h Q) : callP Try.prog 139 [Value.pointer p0, cMsg.enc p1] (tupC [cSl, cB]) h Q :=
  spec_of (prem_of prog_ok dep_ok eqs_ok rfl (by kernel_rfl)) mix_ok ((e139 p0 p1 h Q).mpr hk)
def a140 : Ann := { prom := 16, refs := [], dyn := 0, bcd := fun s => match s with | 4 => some (cFrame) | _ => none, eqs := memL eqL, cdc := cdcs, res := ress, pure := memL [97], pan := memL [122, 137] }
def n140 : An := (.seq (.reg []) (.seq (.reg []) .leaf))
/-- consols/consolsref10.of -/
def F140 (p0 : Int) (p1 : Sl) (h : Hp) (Q : Frame → Hp → Prop) : Prop :=
  callP Try.prog (86 : Nat) [Value.int IntKind.i64 p0, Value.slice p1.a p1.len p1.cap] cMsg h fun (x1 : Msg) (h1 : Hp) =>
    Q { Seq := (0 : Int), Msg_Kind := x1.Kind, Msg_F_0 := x1.F_0, Msg_F_1 := x1.F_1, Msg_F_2 := x1.F_2, Msg_F_3 := x1.F_3, Msg_F_4 := x1.F_4, Msg_F_5 := x1.F_5 : Frame } h1
theorem e140 (p0 : Int) (p1 : Sl) (h : Hp) (Q : Frame → Hp → Prop) : fnD a140 Try.prog 140 n140 (cFrame) [Value.int IntKind.i64 p0, Value.slice p1.a p1.len p1.cap] h Q = F140 p0 p1 h Q := by kernel_rfl
theorem c140 {p0 : Int} {p1 : Sl} {h : Hp} {Q : Frame → Hp → Prop} (hk : F140 p0 p1 h Q) : callP Try.prog 140 [Value.int IntKind.i64 p0, Value.slice p1.a p1.len p1.cap] (cFrame) h Q :=
  spec_of (prem_of prog_ok dep_ok eqs_ok rfl (by kernel_rfl)) mix_ok ((e140 p0 p1 h Q).mpr hk)
def a146 : Ann := { prom := 8, refs := [(9, 3), (15, 3), (16, 3), (33, 3), (34, 3)], dyn := 0, bcd := fun s => match s with | 3 => some (cMsg) | _ => none, eqs := memL eqL, cdc := cdcs, res := ress, pure := memL [97], pan := memL [122, 137] }
def n146 : An := (.seq (.reg []) (.seq (.seq (.reg []) (.blockJ [] 4503599627368944 (.seq (.reg []) (.cond (.seq (.reg []) (.seq (.reg []) .leaf)) (.seq (.reg []) (.cond (.seq (.reg []) .leaf) (.seq (.reg []) (.cond (.seq (.reg [(0, []), (1, []), (2, []), (4, []), (5, []), (6, []), (3, []), (7, []), (8, []), (9, []), (10, []), (11, []), (12, [])]) (.seq (.seq (.reg []) (.cond (.seq (.reg []) (.seq (.reg []) .leaf)) .leaf)) (.seq (.reg []) .leaf))) (.seq (.reg []) (.cond (.reg []) .leaf)))))))))) (.seq (.reg []) .leaf)))
/-- (*consols/sess.Sess).session -/
def F146 (p0 : Option Addr) (p1 : Msg) (h : Hp) (Q : Sl → Hp → Prop) : Prop :=
  joinP (fun (u1 : PUnit) (h1 : Hp) => Q { a := none, len := (0 : Nat), cap := (0 : Nat) : Sl } h1) fun (J1 : PUnit → Hp → Prop) =>
    condP (p1.Kind == (1 : Int)) (atP (6 : Nat) (0 : Int) (callP Try.prog (133 : Nat) [Value.pointer p0, Value.int IntKind.i64 p1.F_0] (tupC [cSl, cB]) h fun (z1 : Sl × Bool) (h2 : Hp) => Q z1.fst h2))
      (condP (p1.Kind == (3 : Int))
        (callP Try.prog (135 : Nat) [Value.int IntKind.i64 (2 : Int), Value.int IntKind.i64 (0 : Int)] cFrame h fun (x1 : Frame) (h3 : Hp) =>
          allocP
            (Obj.cells
              {
                toList :=
                  [Value.int IntKind.i64 x1.Seq, Value.int IntKind.i64 x1.Msg_Kind, Value.int IntKind.i64 x1.Msg_F_0, Value.int IntKind.i64 x1.Msg_F_1, Value.int IntKind.i64 x1.Msg_F_2, Value.int IntKind.i64 x1.Msg_F_3,
                    Value.int IntKind.i64 x1.Msg_F_4, Value.int IntKind.i64 x1.Msg_F_5] :
                Array Value }
              (48 : Nat))
            h3 fun (k1 : Nat) (h4 : Hp) => Q { a := some { block := k1, off := (0 : Nat) : Addr }, len := (1 : Nat), cap := (1 : Nat) : Sl } h4)
        (condP (p1.Kind == (4 : Int))
          (nilP p0 fun (a1 : Addr) =>
            atP (6 : Nat) (0 : Int)
              (loadP cP { block := a1.block, off := a1.off + (3 : Nat) : Addr } h fun (p1_1 : Option Addr) =>
                callP Try.prog (51 : Nat) [Value.pointer p1_1, Value.int IntKind.i64 p1.F_0] (tupC [cSl, cB]) h fun (z2 : Sl × Bool) (h5 : Hp) =>
                  condP (!z2.snd)
                    (nilP p0 fun (a2 : Addr) =>
                      storeP cB { block := a2.block, off := a2.off + (1 : Nat) : Addr } false h5 fun (h6 : Hp) =>
                        callP Try.prog (135 : Nat) [Value.int IntKind.i64 (5 : Int), Value.int IntKind.i64 (0 : Int)] cFrame h6 fun (x2 : Frame) (h7 : Hp) =>
                          allocP
                            (Obj.cells
                              {
                                toList :=
                                  [Value.int IntKind.i64 x2.Seq, Value.int IntKind.i64 x2.Msg_Kind, Value.int IntKind.i64 x2.Msg_F_0, Value.int IntKind.i64 x2.Msg_F_1, Value.int IntKind.i64 x2.Msg_F_2, Value.int IntKind.i64 x2.Msg_F_3,
                                    Value.int IntKind.i64 x2.Msg_F_4, Value.int IntKind.i64 x2.Msg_F_5] :
                                Array Value }
                              (48 : Nat))
                            h7 fun (k2 : Nat) (h8 : Hp) => Q { a := some { block := k2, off := (0 : Nat) : Addr }, len := (1 : Nat), cap := (1 : Nat) : Sl } h8)
                    (Q z2.fst h5)))
          (condP (p1.Kind == (5 : Int)) (nilP p0 fun (a3 : Addr) => storeP cB { block := a3.block, off := a3.off + (1 : Nat) : Addr } false h fun (h9 : Hp) => J1 PUnit.unit h9) (J1 PUnit.unit h))))
theorem e146 (p0 : Option Addr) (p1 : Msg) (h : Hp) (Q : Sl → Hp → Prop) : fnD a146 Try.prog 146 n146 (cSl) [Value.pointer p0, cMsg.enc p1] h Q = F146 p0 p1 h Q := by kernel_rfl
theorem c146 {p0 : Option Addr} {p1 : Msg} {h : Hp} {Q : Sl → Hp → Prop} (hk : F146 p0 p1 h Q) : callP Try.prog 146 [Value.pointer p0, cMsg.enc p1] (cSl) h Q :=
  spec_of (prem_of prog_ok dep_ok eqs_ok rfl (by kernel_rfl)) mix_ok ((e146 p0 p1 h Q).mpr hk)
def a27 : Ann := { prom := 320, refs := [(61, 6)], dyn := 0, bcd := fun s => match s with | 6 => some (cFrame) | 8 => some (cMsg) | _ => none, eqs := memL eqL, cdc := cdcs, res := ress, pure := memL [97], pan := memL [122, 137] }
def n27 : An := (.seq (.reg []) (.seq (.seq (.reg []) (.cond (.seq (.reg []) .leaf) .leaf)) (.seq (.reg []) (.seq (.reg []) (.seq (.reg []) (.seq (.seq (.reg []) (.block (.loop [(4, false, cI .i64), (5, false, cI .i64)] 590295810358704605172 (.seq (.seq (.reg []) (.cond .leaf .leaf)) (.seq (.block (.seq (.reg [(0, []), (1, []), (2, []), (4, []), (5, []), (6, []), (11, []), (3, []), (7, []), (8, []), (9, []), (10, []), (12, [])]) (.seq (.reg []) (.seq (.join [(56, false, cB)] 144080003703767040 (.reg []) (.cond (.seq (.reg []) .leaf) .leaf)) (.join [(4, false, cI .i64)] 18302628885633695764 (.seq (.reg []) (.cond (.seq (.reg []) (.seq (.reg []) (.cond (.seq (.reg []) .leaf) .leaf))) .leaf)) (.seq (.reg []) (.cond (.seq (.reg []) .leaf) .leaf))))))) (.reg [])))))) (.seq (.reg []) .leaf)))))))
/-- consols/consolslaw10.SessOnce -/
def F27 (p0 : Sl) (h : Hp) (Q : Bool → Hp → Prop) : Prop :=
  condP (decide ((↑p0.len : Int) > (100 : Int))) (Q true h)
    (callP Try.prog (82 : Nat) [Value.int IntKind.i64 (5 : Int)] cP h fun (p1 : Option Addr) (h1 : Hp) =>
      callP Try.prog (83 : Nat)
        [Value.pointer p1,
          Value.agg
            {
              toList :=
                [Value.int IntKind.i64 (0 : Int), Value.int IntKind.i64 (1 : Int), Value.int IntKind.i64 (1 : Int), Value.int IntKind.i64 (0 : Int), Value.int IntKind.i64 (0 : Int), Value.int IntKind.i64 (0 : Int),
                  Value.int IntKind.i64 (0 : Int), Value.int IntKind.i64 (0 : Int)] :
              Array Value }]
        (tupC [cSl, cMsg, cB, cB]) h1 fun (z1 : Sl × Msg × Bool × Bool) (h2 : Hp) =>
        loopP ((0 : Int), (0 : Int)) h2 fun (J1 : Int × Int → Hp → Prop) (z2 : Int × Int) (h3 : Hp) =>
          condP (decide (z2.snd < (↑p0.len : Int)))
            (idxP p0.a p0.len z2.snd fun (a1 : Addr) =>
              idxP p0.a p0.len z2.snd fun (a2 : Addr) =>
                loadP (cI IntKind.i64) (a1.add (z2.snd.toNat * (1 : Nat))) h3 fun (n1 : Int) =>
                  loadP (cI IntKind.i64) (a2.add (z2.snd.toNat * (1 : Nat))) h3 fun (n2 : Int) =>
                    callP Try.prog (83 : Nat)
                      [Value.pointer p1,
                        Value.agg
                          {
                            toList :=
                              [Value.int IntKind.i64 n1, Value.int IntKind.i64 (12 : Int), Value.int IntKind.i64 n2, Value.int IntKind.i64 (0 : Int), Value.int IntKind.i64 (0 : Int), Value.int IntKind.i64 (0 : Int),
                                Value.int IntKind.i64 (0 : Int), Value.int IntKind.i64 (0 : Int)] :
                            Array Value }]
                      (tupC [cSl, cMsg, cB, cB]) h3 fun (z3 : Sl × Msg × Bool × Bool) (h4 : Hp) =>
                      joinP
                        (fun (t1 : Bool) (h5 : Hp) =>
                          condP t1 (Q false h5)
                            (joinP
                              (fun (n3 : Int) (h6 : Hp) =>
                                callP Try.prog (84 : Nat) [Value.pointer p1] (cI IntKind.i64) h6 fun (n4 : Int) (h7 : Hp) => condP (n4 != IntKind.i64.wrap (n3 + (1 : Int))) (Q false h7) (J1 (n3, IntKind.i64.wrap (z2.snd + (1 : Int))) h7))
                              fun (J2 : Int → Hp → Prop) =>
                              condP z3.snd.snd.fst
                                (condP
                                  (!(z3.snd.fst.Kind == (12 : Int) &&
                                      (z3.snd.fst.F_0 == n2 && (z3.snd.fst.F_1 == (0 : Int) && (z3.snd.fst.F_2 == (0 : Int) && (z3.snd.fst.F_3 == (0 : Int) && (z3.snd.fst.F_4 == (0 : Int) && (z3.snd.fst.F_5 == (0 : Int) && true))))))))
                                  (Q false h5) (J2 (IntKind.i64.wrap (z2.fst + (1 : Int))) h5))
                                (J2 z2.fst h5)))
                        fun (J3 : Bool → Hp → Prop) =>
                        idxP p0.a p0.len z2.snd fun (a3 : Addr) =>
                          loadP (cI IntKind.i64) (a3.add (z2.snd.toNat * (1 : Nat))) h4 fun (n5 : Int) => condP (!z3.snd.snd.fst == (n5 == IntKind.i64.wrap (z2.fst + (1 : Int)))) (J3 true h4) (J3 z3.snd.snd.snd h4))
            (callP Try.prog (85 : Nat) [] cB h3 fun (t2 : Bool) (h8 : Hp) => Q t2 h8))
theorem e27 (p0 : Sl) (h : Hp) (Q : Bool → Hp → Prop) : fnD a27 Try.prog 27 n27 (cB) [Value.slice p0.a p0.len p0.cap] h Q = F27 p0 h Q := by kernel_rfl
theorem c27 {p0 : Sl} {h : Hp} {Q : Bool → Hp → Prop} (hk : F27 p0 h Q) : callP Try.prog 27 [Value.slice p0.a p0.len p0.cap] (cB) h Q :=
  spec_of (prem_of prog_ok dep_ok eqs_ok rfl (by kernel_rfl)) mix_ok ((e27 p0 h Q).mpr hk)
def a28 : Ann := { prom := 279040, refs := [], dyn := 0, bcd := fun s => match s with | 9 => some (cMsg) | 14 => some (cMsg) | 18 => some (cMsg) | _ => none, eqs := memL eqL, cdc := cdcs, res := ress, pure := memL [97], pan := memL [122, 137] }
def n28 : An := (.seq (.reg []) (.seq (.join [(34, false, cB)] 34357641216 (.reg []) (.cond (.seq (.reg []) .leaf) .leaf)) (.seq (.reg []) (.seq (.reg []) (.seq (.reg []) (.seq (.seq (.reg []) (.block (.loop [(6, false, cI .i64), (7, false, cI .i64)] 75557863723715300171728 (.seq (.seq (.reg []) (.cond .leaf .leaf)) (.seq (.block (.seq (.reg []) (.seq (.seq (.reg []) (.cond (.seq (.reg []) .leaf) .leaf)) (.seq (.reg []) (.block (.loop [(6, false, cI .i64), (12, false, cI .i64)] 75556710804409716576336 (.seq (.seq (.reg []) (.cond .leaf .leaf)) (.seq (.block (.seq (.reg []) (.seq (.reg [(0, []), (1, []), (2, []), (3, []), (4, []), (5, [3]), (6, []), (7, [])]) (.cond (.seq (.reg []) .leaf) .leaf)))) (.reg []))))))))) (.reg [])))))) (.seq (.reg []) (.seq (.reg []) (.seq (.reg [(0, []), (1, []), (2, []), (3, []), (4, []), (5, []), (6, []), (7, []), (8, []), (9, []), (10, []), (11, []), (12, []), (13, []), (14, []), (15, []), (16, []), (17, []), (18, []), (19, []), (20, [18]), (21, []), (22, []), (23, []), (24, []), (25, []), (26, [])]) .leaf)))))))))
/-- consols/consolslaw10.SessGap -/
def F28 (p0 : Int) (p1 : Int) (h : Hp) (Q : Bool → Hp → Prop) : Prop :=
  joinP
    (fun (t1 : Bool) (h1 : Hp) =>
      condP t1 (Q true h1)
        (callP Try.prog (82 : Nat) [Value.int IntKind.i64 (9 : Int)] cP h1 fun (p1_1 : Option Addr) (h2 : Hp) =>
          allocP (Obj.cells { toList := [Value.int IntKind.i64 (1 : Int)] : Array Value } (2 : Nat)) h2 fun (k1 : Nat) (h3 : Hp) =>
            callP Try.prog (86 : Nat) [Value.int IntKind.i64 (1 : Int), Value.slice (some { block := k1, off := (0 : Nat) : Addr }) (1 : Nat) (1 : Nat)] cMsg h3 fun (x1 : Msg) (h4 : Hp) =>
              callP Try.prog (83 : Nat)
                [Value.pointer p1_1,
                  Value.agg
                    {
                      toList :=
                        [Value.int IntKind.i64 (0 : Int), Value.int IntKind.i64 x1.Kind, Value.int IntKind.i64 x1.F_0, Value.int IntKind.i64 x1.F_1, Value.int IntKind.i64 x1.F_2, Value.int IntKind.i64 x1.F_3, Value.int IntKind.i64 x1.F_4,
                          Value.int IntKind.i64 x1.F_5] :
                      Array Value }]
                (tupC [cSl, cMsg, cB, cB]) h4 fun (z1 : Sl × Msg × Bool × Bool) (h5 : Hp) =>
                loopP ((0 : Int), (0 : Int)) h5 fun (J1 : Int × Int → Hp → Prop) (z2 : Int × Int) (h6 : Hp) =>
                  condP (decide (z2.snd < p1))
                    (allocP (Obj.cells { toList := [Value.int IntKind.i64 (1 : Int)] : Array Value } (2 : Nat)) h6 fun (k2 : Nat) (h7 : Hp) =>
                      callP Try.prog (86 : Nat) [Value.int IntKind.i64 (12 : Int), Value.slice (some { block := k2, off := (0 : Nat) : Addr }) (1 : Nat) (1 : Nat)] cMsg h7 fun (x2 : Msg) (h8 : Hp) =>
                        callP Try.prog (83 : Nat)
                          [Value.pointer p1_1,
                            Value.agg
                              {
                                toList :=
                                  [Value.int IntKind.i64 (IntKind.i64.wrap (p0 + z2.snd)), Value.int IntKind.i64 x2.Kind, Value.int IntKind.i64 x2.F_0, Value.int IntKind.i64 x2.F_1, Value.int IntKind.i64 x2.F_2,
                                    Value.int IntKind.i64 x2.F_3, Value.int IntKind.i64 x2.F_4, Value.int IntKind.i64 x2.F_5] :
                                Array Value }]
                          (tupC [cSl, cMsg, cB, cB]) h8 fun (z3 : Sl × Msg × Bool × Bool) (h9 : Hp) =>
                          condP z3.snd.snd.fst (Q false h9)
                            (loopP (z2.fst, (0 : Int)) h9 fun (J2 : Int × Int → Hp → Prop) (z4 : Int × Int) (h10 : Hp) =>
                              condP (decide (z4.snd < (↑z3.fst.len : Int)))
                                (idxP z3.fst.a z3.fst.len z4.snd fun (a1 : Addr) =>
                                  loadP cFrame (a1.add (z4.snd.toNat * (8 : Nat))) h10 fun (x3 : Frame) =>
                                    allocP (Obj.cells { toList := [Value.int IntKind.i64 (1 : Int)] : Array Value } (2 : Nat)) h10 fun (k3 : Nat) (h11 : Hp) =>
                                      callP Try.prog (86 : Nat) [Value.int IntKind.i64 (4 : Int), Value.slice (some { block := k3, off := (0 : Nat) : Addr }) (1 : Nat) (1 : Nat)] cMsg h11 fun (x4 : Msg) (h12 : Hp) =>
                                        (h12.rds (a1.add (z4.snd.toNat * (8 : Nat)))
                                              [Value.int IntKind.i64 x3.Seq, Value.int IntKind.i64 x3.Msg_Kind, Value.int IntKind.i64 x3.Msg_F_0, Value.int IntKind.i64 x3.Msg_F_1, Value.int IntKind.i64 x3.Msg_F_2,
                                                Value.int IntKind.i64 x3.Msg_F_3, Value.int IntKind.i64 x3.Msg_F_4, Value.int IntKind.i64 x3.Msg_F_5] ∧
                                            True) ∧
                                          condP
                                            (!(x3.Seq == (0 : Int) &&
                                                (x3.Msg_Kind == x4.Kind && (x3.Msg_F_0 == x4.F_0 && (x3.Msg_F_1 == x4.F_1 && (x3.Msg_F_2 == x4.F_2 && (x3.Msg_F_3 == x4.F_3 && (x3.Msg_F_4 == x4.F_4 && (x3.Msg_F_5 == x4.F_5 && true)))))))))
                                            (Q false h12) (J2 (IntKind.i64.wrap (z4.fst + (1 : Int)), IntKind.i64.wrap (z4.snd + (1 : Int))) h12))
                                (J1 (z4.fst, IntKind.i64.wrap (z2.snd + (1 : Int))) h10)))
                    (allocP (Obj.cells { toList := [Value.int IntKind.i64 (1 : Int)] : Array Value } (2 : Nat)) h6 fun (k4 : Nat) (h13 : Hp) =>
                      callP Try.prog (86 : Nat) [Value.int IntKind.i64 (12 : Int), Value.slice (some { block := k4, off := (0 : Nat) : Addr }) (1 : Nat) (1 : Nat)] cMsg h13 fun (x5 : Msg) (h14 : Hp) =>
                        callP Try.prog (83 : Nat)
                          [Value.pointer p1_1,
                            Value.agg
                              {
                                toList :=
                                  [Value.int IntKind.i64 (1 : Int), Value.int IntKind.i64 x5.Kind, Value.int IntKind.i64 x5.F_0, Value.int IntKind.i64 x5.F_1, Value.int IntKind.i64 x5.F_2, Value.int IntKind.i64 x5.F_3,
                                    Value.int IntKind.i64 x5.F_4, Value.int IntKind.i64 x5.F_5] :
                                Array Value }]
                          (tupC [cSl, cMsg, cB, cB]) h14 fun (z5 : Sl × Msg × Bool × Bool) (h15 : Hp) =>
                          allocP (Obj.cells { toList := [Value.int IntKind.i64 (1 : Int)] : Array Value } (2 : Nat)) h15 fun (k5 : Nat) (h16 : Hp) =>
                            callP Try.prog (86 : Nat) [Value.int IntKind.i64 (12 : Int), Value.slice (some { block := k5, off := (0 : Nat) : Addr }) (1 : Nat) (1 : Nat)] cMsg h16 fun (x6 : Msg) (h17 : Hp) =>
                              callP Try.prog (83 : Nat)
                                [Value.pointer p1_1,
                                  Value.agg
                                    {
                                      toList :=
                                        [Value.int IntKind.i64 (IntKind.i64.wrap (p0 + (1 : Int))), Value.int IntKind.i64 x6.Kind, Value.int IntKind.i64 x6.F_0, Value.int IntKind.i64 x6.F_1, Value.int IntKind.i64 x6.F_2,
                                          Value.int IntKind.i64 x6.F_3, Value.int IntKind.i64 x6.F_4, Value.int IntKind.i64 x6.F_5] :
                                      Array Value }]
                                (tupC [cSl, cMsg, cB, cB]) h17 fun (z6 : Sl × Msg × Bool × Bool) (h18 : Hp) =>
                                condP (z2.fst == (1 : Int))
                                  (condP z5.snd.snd.fst
                                    (condP (!z6.snd.snd.fst)
                                      (condP ((↑z6.fst.len : Int) == (1 : Int))
                                        (idxP z6.fst.a z6.fst.len (0 : Int) fun (a2 : Addr) =>
                                          loadP cMsg { block := (a2.add (0 : Nat)).block, off := (a2.add (0 : Nat)).off + (1 : Nat) : Addr } h18 fun (x7 : Msg) =>
                                            allocP (Obj.cells { toList := [Value.int IntKind.i64 (2 : Int)] : Array Value } (2 : Nat)) h18 fun (k6 : Nat) (h19 : Hp) =>
                                              callP Try.prog (86 : Nat) [Value.int IntKind.i64 (4 : Int), Value.slice (some { block := k6, off := (0 : Nat) : Addr }) (1 : Nat) (1 : Nat)] cMsg h19 fun (x8 : Msg) (h20 : Hp) =>
                                                (h20.rds { block := (a2.add (0 : Nat)).block, off := (a2.add (0 : Nat)).off + (1 : Nat) : Addr }
                                                      [Value.int IntKind.i64 x7.Kind, Value.int IntKind.i64 x7.F_0, Value.int IntKind.i64 x7.F_1, Value.int IntKind.i64 x7.F_2, Value.int IntKind.i64 x7.F_3, Value.int IntKind.i64 x7.F_4,
                                                        Value.int IntKind.i64 x7.F_5] ∧
                                                    True) ∧
                                                  condP (x7.Kind == x8.Kind && (x7.F_0 == x8.F_0 && (x7.F_1 == x8.F_1 && (x7.F_2 == x8.F_2 && (x7.F_3 == x8.F_3 && (x7.F_4 == x8.F_4 && (x7.F_5 == x8.F_5 && true)))))))
                                                    (callP Try.prog (85 : Nat) [] cB h20 fun (t2 : Bool) (h21 : Hp) => Q t2 h21) (Q false h20))
                                        ((True ∧ True) ∧ Q false h18))
                                      ((True ∧ True) ∧ Q false h18))
                                    ((True ∧ True) ∧ Q false h18))
                                  ((True ∧ True) ∧ Q false h18))))
    fun (J3 : Bool → Hp → Prop) => condP (decide (p0 < (2 : Int))) (J3 true h) (condP (decide (p0 > (30 : Int))) (J3 true h) (condP (decide (p1 < (1 : Int))) (J3 true h) (J3 (decide (p1 > (10 : Int))) h)))
theorem e28 (p0 : Int) (p1 : Int) (h : Hp) (Q : Bool → Hp → Prop) : fnD a28 Try.prog 28 n28 (cB) [Value.int IntKind.i64 p0, Value.int IntKind.i64 p1] h Q = F28 p0 p1 h Q := by kernel_rfl
theorem c28 {p0 : Int} {p1 : Int} {h : Hp} {Q : Bool → Hp → Prop} (hk : F28 p0 p1 h Q) : callP Try.prog 28 [Value.int IntKind.i64 p0, Value.int IntKind.i64 p1] (cB) h Q :=
  spec_of (prem_of prog_ok dep_ok eqs_ok rfl (by kernel_rfl)) mix_ok ((e28 p0 p1 h Q).mpr hk)
def a29 : Ann := { prom := 0, refs := [], dyn := 0, bcd := fun s => match s with | _ => none, eqs := memL eqL, cdc := cdcs, res := ress, pure := memL [97], pan := memL [122, 137] }
def n29 : An := (.seq (.reg []) (.seq (.join [(15, false, cB)] 64512 (.reg []) (.cond (.seq (.reg []) .leaf) .leaf)) (.seq (.reg []) (.seq (.reg []) (.seq (.seq (.reg []) (.block (.loop [(4, false, cI .i64)] 9444732965739282039028 (.seq (.seq (.reg []) (.cond .leaf .leaf)) (.seq (.block (.seq (.reg []) (.seq (.reg []) (.seq (.seq (.reg []) (.blockJ [(7, false, cI .i64)] 70334384439424 (.seq (.reg []) (.cond (.reg []) (.seq (.reg []) (.cond (.reg []) (.seq (.reg []) (.cond (.reg []) .leaf)))))))) (.join [(72, false, cB)] 9444732895370546249728 (.reg []) (.cond (.seq (.reg []) .leaf) .leaf)))))) (.reg [])))))) (.seq (.reg []) (.seq (.reg []) .leaf)))))))
/-- consols/consolslaw10.SessBeats -/
def F29 (p0 : Int) (h : Hp) (Q : Bool → Hp → Prop) : Prop :=
  joinP
    (fun (t1 : Bool) (h1 : Hp) =>
      condP t1 (Q true h1)
        (callP Try.prog (82 : Nat) [Value.int IntKind.i64 p0] cP h1 fun (p1 : Option Addr) (h2 : Hp) =>
          callP Try.prog (83 : Nat)
            [Value.pointer p1,
              Value.agg
                {
                  toList :=
                    [Value.int IntKind.i64 (0 : Int), Value.int IntKind.i64 (1 : Int), Value.int IntKind.i64 (1 : Int), Value.int IntKind.i64 (0 : Int), Value.int IntKind.i64 (0 : Int), Value.int IntKind.i64 (0 : Int),
                      Value.int IntKind.i64 (0 : Int), Value.int IntKind.i64 (0 : Int)] :
                  Array Value }]
            (tupC [cSl, cMsg, cB, cB]) h2 fun (z1 : Sl × Msg × Bool × Bool) (h3 : Hp) =>
            loopP (1 : Int) h3 fun (J1 : Int → Hp → Prop) (n1 : Int) (h4 : Hp) =>
              condP (decide (n1 ≤ IntKind.i64.wrap ((3 : Int) * p0)))
                (callP Try.prog (87 : Nat) [Value.pointer p1] (tupC [cSl, cB]) h4 fun (z2 : Sl × Bool) (h5 : Hp) =>
                  joinP
                    (fun (n2 : Int) (h6 : Hp) =>
                      joinP (fun (t2 : Bool) (h7 : Hp) => condP t2 (Q false h7) (J1 (IntKind.i64.wrap (n1 + (1 : Int))) h7)) fun (J2 : Bool → Hp → Prop) =>
                        condP (!((↑z2.fst.len : Int) == (1 : Int)) == (n2 != (0 : Int))) (J2 true h6)
                          (condP (n2 != (0 : Int))
                            (idxP z2.fst.a z2.fst.len (0 : Int) fun (a1 : Addr) =>
                              loadP (cI IntKind.i64) { block := (a1.add (0 : Nat)).block, off := (a1.add (0 : Nat)).off + (1 : Nat) : Addr } h6 fun (n3 : Int) =>
                                condP (n3 != n2) (J2 true h6) (J2 (!z2.snd == (n1 == IntKind.i64.wrap ((3 : Int) * p0))) h6))
                            (J2 (!z2.snd == (n1 == IntKind.i64.wrap ((3 : Int) * p0))) h6)))
                    fun (J3 : Int → Hp → Prop) => condP (n1 == p0) (J3 (2 : Int) h5) (condP (n1 == IntKind.i64.wrap ((2 : Int) * p0)) (J3 (3 : Int) h5) (condP (n1 == IntKind.i64.wrap ((3 : Int) * p0)) (J3 (5 : Int) h5) (J3 (0 : Int) h5))))
                (callP Try.prog (87 : Nat) [Value.pointer p1] (tupC [cSl, cB]) h4 fun (z3 : Sl × Bool) (h8 : Hp) =>
                  callP Try.prog (88 : Nat) [Value.pointer p1] cB h8 fun (t3 : Bool) (h9 : Hp) =>
                    condP (!t3) (condP ((↑z3.fst.len : Int) == (0 : Int)) (condP (!z3.snd) (callP Try.prog (85 : Nat) [] cB h9 fun (t4 : Bool) (h10 : Hp) => Q t4 h10) (Q false h9)) (Q false h9)) (Q false h9))))
    fun (J4 : Bool → Hp → Prop) => condP (decide (p0 < (1 : Int))) (J4 true h) (J4 (decide (p0 > (100 : Int))) h)
theorem e29 (p0 : Int) (h : Hp) (Q : Bool → Hp → Prop) : fnD a29 Try.prog 29 n29 (cB) [Value.int IntKind.i64 p0] h Q = F29 p0 h Q := by kernel_rfl
theorem c29 {p0 : Int} {h : Hp} {Q : Bool → Hp → Prop} (hk : F29 p0 h Q) : callP Try.prog 29 [Value.int IntKind.i64 p0] (cB) h Q :=
  spec_of (prem_of prog_ok dep_ok eqs_ok rfl (by kernel_rfl)) mix_ok ((e29 p0 h Q).mpr hk)
def a30 : Ann := { prom := 18, refs := [(15, 1), (18, 1), (26, 1), (30, 1)], dyn := 0, bcd := fun s => match s with | 1 => some (cFrame) | 4 => some (cFrame) | _ => none, eqs := memL eqL, cdc := cdcs, res := ress, pure := memL [97], pan := memL [122, 137] }
def n30 : An := (.seq (.reg []) (.seq (.reg []) (.seq (.join [(22, false, cB)] 8388352 (.reg [(0, []), (2, []), (1, []), (3, [1]), (4, []), (5, []), (6, []), (7, []), (8, []), (10, []), (11, []), (9, []), (12, []), (13, []), (14, [])]) (.cond (.seq (.reg []) .leaf) .leaf)) (.seq (.seq (.reg []) (.cond (.seq (.reg []) .leaf) .leaf)) (.seq (.reg []) (.seq (.reg []) .leaf))))))
/-- consols/consolslaw5.MsgBytes -/
def F30 (p0 : Frame) (h : Hp) (Q : Bool → Hp → Prop) : Prop :=
  callP Try.prog (89 : Nat)
    [Value.agg
        {
          toList :=
            [Value.int IntKind.i64 p0.Seq, Value.int IntKind.i64 p0.Msg_Kind, Value.int IntKind.i64 p0.Msg_F_0, Value.int IntKind.i64 p0.Msg_F_1, Value.int IntKind.i64 p0.Msg_F_2, Value.int IntKind.i64 p0.Msg_F_3,
              Value.int IntKind.i64 p0.Msg_F_4, Value.int IntKind.i64 p0.Msg_F_5] :
          Array Value }]
    cSl h fun (s1 : Sl) (h1 : Hp) =>
    joinP
      (fun (t1 : Bool) (h2 : Hp) =>
        condP t1 (Q false h2)
          (condP ((↑s1.len : Int) == (0 : Int))
            (condP (decide (p0.Seq < (0 : Int))) (callP Try.prog (93 : Nat) [] cB h2 fun (t2 : Bool) (h3 : Hp) => Q t2 h3)
              (callP Try.prog (92 : Nat)
                [Value.agg
                    {
                      toList :=
                        [Value.int IntKind.i64 p0.Msg_Kind, Value.int IntKind.i64 p0.Msg_F_0, Value.int IntKind.i64 p0.Msg_F_1, Value.int IntKind.i64 p0.Msg_F_2, Value.int IntKind.i64 p0.Msg_F_3, Value.int IntKind.i64 p0.Msg_F_4,
                          Value.int IntKind.i64 p0.Msg_F_5] :
                      Array Value }]
                cB h2 fun (t3 : Bool) (h4 : Hp) => condP (!t3) (callP Try.prog (93 : Nat) [] cB h4 fun (t4 : Bool) (h5 : Hp) => Q t4 h5) (Q false h4)))
            (callP Try.prog (94 : Nat) [Value.slice s1.a s1.len s1.cap] (tupC [cFrame, cI IntKind.i64]) h2 fun (z1 : Frame × Int) (h6 : Hp) =>
              condP (z1.snd == (0 : Int))
                (condP
                  (z1.fst.Seq == p0.Seq &&
                    (z1.fst.Msg_Kind == p0.Msg_Kind &&
                      (z1.fst.Msg_F_0 == p0.Msg_F_0 && (z1.fst.Msg_F_1 == p0.Msg_F_1 && (z1.fst.Msg_F_2 == p0.Msg_F_2 && (z1.fst.Msg_F_3 == p0.Msg_F_3 && (z1.fst.Msg_F_4 == p0.Msg_F_4 && (z1.fst.Msg_F_5 == p0.Msg_F_5 && true))))))))
                  (callP Try.prog (93 : Nat) [] cB h6 fun (t5 : Bool) (h7 : Hp) => Q t5 h7) (Q false h6))
                (Q false h6))))
      fun (J1 : Bool → Hp → Prop) =>
      strP s1.a s1.len h1 fun (u1 : ByteArray) =>
        callP Try.prog (90 : Nat)
          [Value.agg
              {
                toList :=
                  [Value.int IntKind.i64 p0.Seq, Value.int IntKind.i64 p0.Msg_Kind, Value.int IntKind.i64 p0.Msg_F_0, Value.int IntKind.i64 p0.Msg_F_1, Value.int IntKind.i64 p0.Msg_F_2, Value.int IntKind.i64 p0.Msg_F_3,
                    Value.int IntKind.i64 p0.Msg_F_4, Value.int IntKind.i64 p0.Msg_F_5] :
                Array Value }]
          cSl h1 fun (s2 : Sl) (h8 : Hp) =>
          ((strP s1.a s1.len h8 fun (u2 : ByteArray) => u2 = u1) ∧ True) ∧
            strP s2.a s2.len h8 fun (u3 : ByteArray) =>
              condP (!strEq u1 u3) (J1 true h8)
                (callP Try.prog (91 : Nat)
                  [Value.agg
                      {
                        toList :=
                          [Value.int IntKind.i64 p0.Msg_Kind, Value.int IntKind.i64 p0.Msg_F_0, Value.int IntKind.i64 p0.Msg_F_1, Value.int IntKind.i64 p0.Msg_F_2, Value.int IntKind.i64 p0.Msg_F_3, Value.int IntKind.i64 p0.Msg_F_4,
                            Value.int IntKind.i64 p0.Msg_F_5] :
                        Array Value }]
                  cB h8 fun (t6 : Bool) (h9 : Hp) =>
                  callP Try.prog (92 : Nat)
                    [Value.agg
                        {
                          toList :=
                            [Value.int IntKind.i64 p0.Msg_Kind, Value.int IntKind.i64 p0.Msg_F_0, Value.int IntKind.i64 p0.Msg_F_1, Value.int IntKind.i64 p0.Msg_F_2, Value.int IntKind.i64 p0.Msg_F_3, Value.int IntKind.i64 p0.Msg_F_4,
                              Value.int IntKind.i64 p0.Msg_F_5] :
                          Array Value }]
                    cB h9 fun (t7 : Bool) (h10 : Hp) => J1 (!t6 == t7) h10)
theorem e30 (p0 : Frame) (h : Hp) (Q : Bool → Hp → Prop) : fnD a30 Try.prog 30 n30 (cB) [cFrame.enc p0] h Q = F30 p0 h Q := by kernel_rfl
theorem c30 {p0 : Frame} {h : Hp} {Q : Bool → Hp → Prop} (hk : F30 p0 h Q) : callP Try.prog 30 [cFrame.enc p0] (cB) h Q :=
  spec_of (prem_of prog_ok dep_ok eqs_ok rfl (by kernel_rfl)) mix_ok ((e30 p0 h Q).mpr hk)
def a31 : Ann := { prom := 40, refs := [], dyn := 0, bcd := fun s => match s with | 3 => some (cFrame) | 5 => some (cFrame) | _ => none, eqs := memL eqL, cdc := cdcs, res := ress, pure := memL [97], pan := memL [122, 137] }
def n31 : An := (.seq (.reg []) (.seq (.seq (.reg []) (.cond (.seq (.reg []) .leaf) .leaf)) (.seq (.reg []) (.seq (.reg []) (.seq (.reg []) .leaf)))))
/-- consols/consolslaw5.MsgReads -/
def F31 (p0 : Sl) (h : Hp) (Q : Bool → Hp → Prop) : Prop :=
  condP (decide ((↑p0.len : Int) > (200 : Int))) (Q true h)
    (callP Try.prog (94 : Nat) [Value.slice p0.a p0.len p0.cap] (tupC [cFrame, cI IntKind.i64]) h fun (z1 : Frame × Int) (h1 : Hp) =>
      callP Try.prog (95 : Nat) [Value.slice p0.a p0.len p0.cap] (tupC [cFrame, cI IntKind.i64]) h1 fun (z2 : Frame × Int) (h2 : Hp) =>
        condP
          (z1.fst.Seq == z2.fst.Seq &&
            (z1.fst.Msg_Kind == z2.fst.Msg_Kind &&
              (z1.fst.Msg_F_0 == z2.fst.Msg_F_0 &&
                (z1.fst.Msg_F_1 == z2.fst.Msg_F_1 && (z1.fst.Msg_F_2 == z2.fst.Msg_F_2 && (z1.fst.Msg_F_3 == z2.fst.Msg_F_3 && (z1.fst.Msg_F_4 == z2.fst.Msg_F_4 && (z1.fst.Msg_F_5 == z2.fst.Msg_F_5 && true))))))))
          (condP (z1.snd == z2.snd) (callP Try.prog (93 : Nat) [] cB h2 fun (t1 : Bool) (h3 : Hp) => Q t1 h3) (Q false h2)) (Q false h2))
theorem e31 (p0 : Sl) (h : Hp) (Q : Bool → Hp → Prop) : fnD a31 Try.prog 31 n31 (cB) [Value.slice p0.a p0.len p0.cap] h Q = F31 p0 h Q := by kernel_rfl
theorem c31 {p0 : Sl} {h : Hp} {Q : Bool → Hp → Prop} (hk : F31 p0 h Q) : callP Try.prog 31 [Value.slice p0.a p0.len p0.cap] (cB) h Q :=
  spec_of (prem_of prog_ok dep_ok eqs_ok rfl (by kernel_rfl)) mix_ok ((e31 p0 h Q).mpr hk)
def a32 : Ann := { prom := 256, refs := [(55, 8), (61, 8), (62, 8), (74, 8), (75, 8), (76, 8)], dyn := 75557863725914323419136, bcd := fun s => match s with | 8 => some (cFrame) | _ => none, eqs := memL eqL, cdc := cdcs, res := ress, pure := memL [97], pan := memL [122, 137] }
def n32 : An := (.seq (.reg []) (.seq (.join [(25, false, cB)] 67106816 (.reg []) (.cond (.seq (.reg []) .leaf) .leaf)) (.seq (.reg []) (.seq (.reg []) (.seq (.seq (.reg []) (.cond (.seq (.reg []) .leaf) .leaf)) (.seq (.join [(66, false, cB)] 147569448990049042432 (.reg []) (.cond (.seq (.reg []) .leaf) .leaf)) (.seq (.seq (.reg []) (.block (.loop [(10, false, cI .i64)] 9671258982964443721237568 (.seq (.seq (.reg []) (.cond .leaf .leaf)) (.seq (.block (.seq (.reg [(0, []), (1, []), (2, []), (3, []), (4, []), (5, []), (6, []), (7, []), (8, []), (9, [])]) (.cond (.seq (.reg []) .leaf) .leaf))) (.reg [])))))) (.seq (.reg []) .leaf))))))))
/-- consols/consolslaw5.MsgNumbers -/
def F32 (p0 : Int) (p1 : Int) (p2 : Sl) (h : Hp) (Q : Bool → Hp → Prop) : Prop :=
  joinP
    (fun (t1 : Bool) (h1 : Hp) =>
      condP t1 (Q true h1)
        (allocP (Obj.cells { toList := [Value.int IntKind.i64 p0, Value.int IntKind.i64 p1] : Array Value } (2 : Nat)) h1 fun (k1 : Nat) (h2 : Hp) =>
          appendP (cI IntKind.i64) (2 : Nat) (8 : Nat) (some { block := k1, off := (0 : Nat) : Addr }) (2 : Nat) (2 : Nat) p2.a p2.len h2 fun (p1_1 : Option Addr) (k2 k3 : Nat) (h3 : Hp) =>
            callP Try.prog (64 : Nat) [Value.slice p1_1 k2 k3] cSl h3 fun (s1 : Sl) (h4 : Hp) =>
              callP Try.prog (94 : Nat) [Value.slice s1.a s1.len s1.cap] (tupC [cFrame, cI IntKind.i64]) h4 fun (z1 : Frame × Int) (h5 : Hp) =>
                callP Try.prog (96 : Nat) [Value.int IntKind.i64 p1] (cI IntKind.i64) h5 fun (n1 : Int) (h6 : Hp) =>
                  condP ((↑p2.len : Int) != n1)
                    (condP (z1.snd == (2 : Int))
                      (condP
                        (z1.fst.Seq == (0 : Int) &&
                          (z1.fst.Msg_Kind == (0 : Int) &&
                            (z1.fst.Msg_F_0 == (0 : Int) && (z1.fst.Msg_F_1 == (0 : Int) && (z1.fst.Msg_F_2 == (0 : Int) && (z1.fst.Msg_F_3 == (0 : Int) && (z1.fst.Msg_F_4 == (0 : Int) && (z1.fst.Msg_F_5 == (0 : Int) && true))))))))
                        (callP Try.prog (93 : Nat) [] cB h6 fun (t2 : Bool) (h7 : Hp) => Q t2 h7) (Q false h6))
                      (Q false h6))
                    (joinP
                      (fun (t3 : Bool) (h8 : Hp) =>
                        condP t3 (Q false h8)
                          (loopP (0 : Int) h8 fun (J1 : Int → Hp → Prop) (n2 : Int) (h9 : Hp) =>
                            condP (decide (n2 < (↑p2.len : Int)))
                              (atP (6 : Nat) n2
                                (loadLP (cI IntKind.i64)
                                  [Value.int IntKind.i64 z1.fst.Seq, Value.int IntKind.i64 z1.fst.Msg_Kind, Value.int IntKind.i64 z1.fst.Msg_F_0, Value.int IntKind.i64 z1.fst.Msg_F_1, Value.int IntKind.i64 z1.fst.Msg_F_2,
                                    Value.int IntKind.i64 z1.fst.Msg_F_3, Value.int IntKind.i64 z1.fst.Msg_F_4, Value.int IntKind.i64 z1.fst.Msg_F_5]
                                  ((2 : Nat) + n2.toNat * (1 : Nat)) fun (n3 : Int) =>
                                  idxP p2.a p2.len n2 fun (a1 : Addr) => loadP (cI IntKind.i64) (a1.add (n2.toNat * (1 : Nat))) h9 fun (n4 : Int) => condP (n3 != n4) (Q false h9) (J1 (IntKind.i64.wrap (n2 + (1 : Int))) h9)))
                              (callP Try.prog (93 : Nat) [] cB h9 fun (t4 : Bool) (h10 : Hp) => Q t4 h10)))
                      fun (J2 : Bool → Hp → Prop) => condP (z1.snd != (0 : Int)) (J2 true h6) (condP (z1.fst.Seq != p0) (J2 true h6) (J2 (z1.fst.Msg_Kind != p1) h6)))))
    fun (J3 : Bool → Hp → Prop) => condP (decide ((↑p2.len : Int) > (12 : Int))) (J3 true h) (condP (decide (p0 < (0 : Int))) (J3 true h) (condP (decide (p1 < (-100 : Int))) (J3 true h) (J3 (decide (p1 > (100 : Int))) h)))
theorem e32 (p0 : Int) (p1 : Int) (p2 : Sl) (h : Hp) (Q : Bool → Hp → Prop) : fnD a32 Try.prog 32 n32 (cB) [Value.int IntKind.i64 p0, Value.int IntKind.i64 p1, Value.slice p2.a p2.len p2.cap] h Q = F32 p0 p1 p2 h Q := by kernel_rfl
theorem c32 {p0 : Int} {p1 : Int} {p2 : Sl} {h : Hp} {Q : Bool → Hp → Prop} (hk : F32 p0 p1 p2 h Q) : callP Try.prog 32 [Value.int IntKind.i64 p0, Value.int IntKind.i64 p1, Value.slice p2.a p2.len p2.cap] (cB) h Q :=
  spec_of (prem_of prog_ok dep_ok eqs_ok rfl (by kernel_rfl)) mix_ok ((e32 p0 p1 p2 h Q).mpr hk)
def a33 : Ann := { prom := 1288, refs := [], dyn := 0, bcd := fun s => match s with | 3 => some (cFrame) | 8 => some (cFrame) | 10 => some (cFrame) | _ => none, eqs := memL eqL, cdc := cdcs, res := ress, pure := memL [97], pan := memL [122, 137] }
def n33 : An := (.seq (.reg []) (.seq (.reg []) (.seq (.join [(26, false, cB)] 134201344 (.reg []) (.cond (.seq (.reg []) .leaf) .leaf)) (.seq (.reg []) (.seq (.reg []) (.seq (.reg []) .leaf))))))
/-- consols/consolslaw5.MsgCut -/
def F33 (p0 : Frame) (p1 : Int) (p2 : Int) (h : Hp) (Q : Bool → Hp → Prop) : Prop :=
  callP Try.prog (90 : Nat)
    [Value.agg
        {
          toList :=
            [Value.int IntKind.i64 p0.Seq, Value.int IntKind.i64 p0.Msg_Kind, Value.int IntKind.i64 p0.Msg_F_0, Value.int IntKind.i64 p0.Msg_F_1, Value.int IntKind.i64 p0.Msg_F_2, Value.int IntKind.i64 p0.Msg_F_3,
              Value.int IntKind.i64 p0.Msg_F_4, Value.int IntKind.i64 p0.Msg_F_5] :
          Array Value }]
    cSl h fun (s1 : Sl) (h1 : Hp) =>
    joinP
      (fun (t1 : Bool) (h2 : Hp) =>
        condP t1 (Q true h2)
          (cutP s1.len s1.cap none (some p1) fun (k1 k2 : Nat) =>
            callP Try.prog (94 : Nat) [Value.slice (cutA s1.a k1 s1.cap (1 : Nat)) (k2 - k1) (s1.cap - k1)] (tupC [cFrame, cI IntKind.i64]) h2 fun (z1 : Frame × Int) (h3 : Hp) =>
              allocP (Obj.cells { toList := [] : Array Value } (5 : Nat)) h3 fun (k3 : Nat) (h4 : Hp) =>
                appendP (cI IntKind.u8) (5 : Nat) (1 : Nat) (some { block := k3, off := (0 : Nat) : Addr }) (0 : Nat) (0 : Nat) s1.a s1.len h4 fun (p1 : Option Addr) (k4 k5 : Nat) (h5 : Hp) =>
                  allocP (Obj.cells { toList := [Value.int IntKind.u8 p2] : Array Value } (5 : Nat)) h5 fun (k6 : Nat) (h6 : Hp) =>
                    appendP (cI IntKind.u8) (5 : Nat) (1 : Nat) p1 k4 k5 (some { block := k6, off := (0 : Nat) : Addr }) (1 : Nat) h6 fun (p2 : Option Addr) (k7 k8 : Nat) (h7 : Hp) =>
                      callP Try.prog (94 : Nat) [Value.slice p2 k7 k8] (tupC [cFrame, cI IntKind.i64]) h7 fun (z2 : Frame × Int) (h8 : Hp) =>
                        condP (z1.snd == (2 : Int)) (condP (z2.snd == (2 : Int)) (callP Try.prog (93 : Nat) [] cB h8 fun (t2 : Bool) (h9 : Hp) => Q t2 h9) (Q false h8)) (Q false h8)))
      fun (J1 : Bool → Hp → Prop) => condP ((↑s1.len : Int) == (0 : Int)) (J1 true h1) (condP (decide (p1 < (0 : Int))) (J1 true h1) (J1 (decide (p1 ≥ (↑s1.len : Int))) h1))
theorem e33 (p0 : Frame) (p1 : Int) (p2 : Int) (h : Hp) (Q : Bool → Hp → Prop) : fnD a33 Try.prog 33 n33 (cB) [cFrame.enc p0, Value.int IntKind.i64 p1, Value.int IntKind.u8 p2] h Q = F33 p0 p1 p2 h Q := by kernel_rfl
theorem c33 {p0 : Frame} {p1 : Int} {p2 : Int} {h : Hp} {Q : Bool → Hp → Prop} (hk : F33 p0 p1 p2 h Q) : callP Try.prog 33 [cFrame.enc p0, Value.int IntKind.i64 p1, Value.int IntKind.u8 p2] (cB) h Q :=
  spec_of (prem_of prog_ok dep_ok eqs_ok rfl (by kernel_rfl)) mix_ok ((e33 p0 p1 p2 h Q).mpr hk)
def a34 : Ann := { prom := 128, refs := [(31, 7), (32, 7)], dyn := 4294967296, bcd := fun s => match s with | 7 => some (cMsg) | _ => none, eqs := memL eqL, cdc := cdcs, res := ress, pure := memL [97], pan := memL [122, 137] }
def n34 : An := (.seq (.reg []) (.seq (.join [(26, false, cB)] 134217216 (.reg []) (.cond (.seq (.reg []) .leaf) .leaf)) (.seq (.reg []) (.seq (.reg []) (.seq (.reg []) (.seq (.reg []) .leaf))))))
/-- consols/consolslaw5.MsgRest -/
def F34 (p0 : Int) (p1 : Int) (p2 : Int) (h : Hp) (Q : Bool → Hp → Prop) : Prop :=
  joinP
    (fun (t1 : Bool) (h1 : Hp) =>
      condP t1 (Q true h1)
        (atP (6 : Nat) p1
          (storeLP cMsg
            [Value.int IntKind.i64 p0, Value.int IntKind.i64 (0 : Int), Value.int IntKind.i64 (0 : Int), Value.int IntKind.i64 (0 : Int), Value.int IntKind.i64 (0 : Int), Value.int IntKind.i64 (0 : Int), Value.int IntKind.i64 (0 : Int)]
            ((1 : Nat) + p1.toNat * (1 : Nat)) [Value.int IntKind.i64 p2] fun (x1 : Msg) =>
            callP Try.prog (96 : Nat) [Value.int IntKind.i64 p0] (cI IntKind.i64) h1 fun (n1 : Int) (h2 : Hp) =>
              callP Try.prog (91 : Nat)
                [Value.agg
                    {
                      toList :=
                        [Value.int IntKind.i64 x1.Kind, Value.int IntKind.i64 x1.F_0, Value.int IntKind.i64 x1.F_1, Value.int IntKind.i64 x1.F_2, Value.int IntKind.i64 x1.F_3, Value.int IntKind.i64 x1.F_4, Value.int IntKind.i64 x1.F_5] :
                      Array Value }]
                cB h2 fun (t2 : Bool) (h3 : Hp) =>
                condP (t2 == decide (p1 < n1))
                  (callP Try.prog (89 : Nat)
                    [Value.agg
                        {
                          toList :=
                            [Value.int IntKind.i64 (0 : Int), Value.int IntKind.i64 x1.Kind, Value.int IntKind.i64 x1.F_0, Value.int IntKind.i64 x1.F_1, Value.int IntKind.i64 x1.F_2, Value.int IntKind.i64 x1.F_3,
                              Value.int IntKind.i64 x1.F_4, Value.int IntKind.i64 x1.F_5] :
                          Array Value }]
                    cSl h3 fun (s1 : Sl) (h4 : Hp) =>
                    condP (decide ((↑s1.len : Int) > (0 : Int)) == decide (p1 < n1))
                      (callP Try.prog (89 : Nat)
                        [Value.agg
                            {
                              toList :=
                                [Value.int IntKind.i64 (-1 : Int), Value.int IntKind.i64 p0, Value.int IntKind.i64 (0 : Int), Value.int IntKind.i64 (0 : Int), Value.int IntKind.i64 (0 : Int), Value.int IntKind.i64 (0 : Int),
                                  Value.int IntKind.i64 (0 : Int), Value.int IntKind.i64 (0 : Int)] :
                              Array Value }]
                        cSl h4 fun (s2 : Sl) (h5 : Hp) => condP ((↑s2.len : Int) == (0 : Int)) (callP Try.prog (93 : Nat) [] cB h5 fun (t3 : Bool) (h6 : Hp) => Q t3 h6) (Q false h5))
                      (Q false h4))
                  (Q false h3))))
    fun (J1 : Bool → Hp → Prop) =>
    condP (decide (p0 < (1 : Int))) (J1 true h) (condP (decide (p0 > (28 : Int))) (J1 true h) (condP (decide (p1 < (0 : Int))) (J1 true h) (condP (decide (p1 ≥ (6 : Int))) (J1 true h) (J1 (p2 == (0 : Int)) h))))
theorem e34 (p0 : Int) (p1 : Int) (p2 : Int) (h : Hp) (Q : Bool → Hp → Prop) : fnD a34 Try.prog 34 n34 (cB) [Value.int IntKind.i64 p0, Value.int IntKind.i64 p1, Value.int IntKind.i64 p2] h Q = F34 p0 p1 p2 h Q := by kernel_rfl
theorem c34 {p0 : Int} {p1 : Int} {p2 : Int} {h : Hp} {Q : Bool → Hp → Prop} (hk : F34 p0 p1 p2 h Q) : callP Try.prog 34 [Value.int IntKind.i64 p0, Value.int IntKind.i64 p1, Value.int IntKind.i64 p2] (cB) h Q :=
  spec_of (prem_of prog_ok dep_ok eqs_ok rfl (by kernel_rfl)) mix_ok ((e34 p0 p1 p2 h Q).mpr hk)
def a35 : Ann := { prom := 0, refs := [], dyn := 0, bcd := fun s => match s with | _ => none, eqs := memL eqL, cdc := cdcs, res := ress, pure := memL [97], pan := memL [122, 137] }
def n35 : An := (.seq (.reg []) (.seq (.reg []) .leaf))
/-- consols/consolslaw5.MsgKinds -/
def F35 (p0 : Int) (h : Hp) (Q : Bool → Hp → Prop) : Prop :=
  pureP Try.prog (97 : Nat) [Value.int IntKind.i64 p0] (cI IntKind.i64) fun (n1 : Int) =>
    callP Try.prog (96 : Nat) [Value.int IntKind.i64 p0] (cI IntKind.i64) h fun (n2 : Int) (h1 : Hp) =>
      condP (n1 == n2)
        (callP Try.prog (98 : Nat) [Value.int IntKind.i64 p0] cB h1 fun (t1 : Bool) (h2 : Hp) =>
          callP Try.prog (99 : Nat) [Value.int IntKind.i64 p0] cB h2 fun (t2 : Bool) (h3 : Hp) =>
            condP (t1 == t2)
              (callP Try.prog (100 : Nat) [Value.int IntKind.i64 p0] cB h3 fun (t3 : Bool) (h4 : Hp) =>
                callP Try.prog (101 : Nat) [Value.int IntKind.i64 p0] cB h4 fun (t4 : Bool) (h5 : Hp) => condP (t3 == t4) (callP Try.prog (93 : Nat) [] cB h5 fun (t5 : Bool) (h6 : Hp) => Q t5 h6) (Q false h5))
              (Q false h3))
        (Q false h1)
theorem e35 (p0 : Int) (h : Hp) (Q : Bool → Hp → Prop) : fnD a35 Try.prog 35 n35 (cB) [Value.int IntKind.i64 p0] h Q = F35 p0 h Q := by kernel_rfl
theorem c35 {p0 : Int} {h : Hp} {Q : Bool → Hp → Prop} (hk : F35 p0 h Q) : callP Try.prog 35 [Value.int IntKind.i64 p0] (cB) h Q :=
  spec_of (prem_of prog_ok dep_ok eqs_ok rfl (by kernel_rfl)) mix_ok ((e35 p0 h Q).mpr hk)
def a36 : Ann := { prom := 2304, refs := [], dyn := 0, bcd := fun s => match s with | 8 => some (cMsg) | 11 => some (cFrame) | _ => none, eqs := memL eqL, cdc := cdcs, res := ress, pure := memL [97], pan := memL [122, 137] }
def n36 : An := (.seq (.reg []) (.seq (.reg []) (.seq (.reg []) (.seq (.reg []) (.seq (.join [(38, false, cB)] 547608330240 (.reg []) (.cond (.seq (.reg []) .leaf) .leaf)) (.seq (.reg []) (.seq (.reg []) (.seq (.reg []) (.seq (.reg []) (.seq (.join [(91, false, cB)] 4951760154835678090382802944 (.reg []) (.cond (.seq (.reg []) .leaf) .leaf)) (.seq (.reg []) (.seq (.reg [(0, []), (1, []), (2, []), (3, []), (4, []), (5, []), (6, []), (7, []), (9, []), (10, []), (11, []), (8, []), (12, []), (13, []), (14, []), (15, []), (16, []), (17, []), (18, []), (19, []), (20, []), (21, []), (22, []), (23, []), (24, []), (25, []), (26, []), (27, [])]) .leaf))))))))))))
/-- consols/consolslaw10.SessOwn -/
def F36 (p0 : Int) (h : Hp) (Q : Bool → Hp → Prop) : Prop :=
  callP Try.prog (86 : Nat) [Value.int IntKind.i64 (2 : Int), Value.slice none (0 : Nat) (0 : Nat)] cMsg h fun (x1 : Msg) (h1 : Hp) =>
    callP Try.prog (86 : Nat) [Value.int IntKind.i64 (3 : Int), Value.slice none (0 : Nat) (0 : Nat)] cMsg h1 fun (x2 : Msg) (h2 : Hp) =>
      allocP (Obj.cells { toList := [Value.int IntKind.i64 (1 : Int)] : Array Value } (2 : Nat)) h2 fun (k1 : Nat) (h3 : Hp) =>
        callP Try.prog (86 : Nat) [Value.int IntKind.i64 (4 : Int), Value.slice (some { block := k1, off := (0 : Nat) : Addr }) (1 : Nat) (1 : Nat)] cMsg h3 fun (x3 : Msg) (h4 : Hp) =>
          allocP (Obj.cells { toList := [Value.int IntKind.i64 (9 : Int)] : Array Value } (2 : Nat)) h4 fun (k2 : Nat) (h5 : Hp) =>
            callP Try.prog (86 : Nat) [Value.int IntKind.i64 (4 : Int), Value.slice (some { block := k2, off := (0 : Nat) : Addr }) (1 : Nat) (1 : Nat)] cMsg h5 fun (x4 : Msg) (h6 : Hp) =>
              callP Try.prog (86 : Nat) [Value.int IntKind.i64 (5 : Int), Value.slice none (0 : Nat) (0 : Nat)] cMsg h6 fun (x5 : Msg) (h7 : Hp) =>
                allocP (Obj.cells { toList := [Value.int IntKind.i64 (2 : Int)] : Array Value } (2 : Nat)) h7 fun (k3 : Nat) (h8 : Hp) =>
                  callP Try.prog (86 : Nat) [Value.int IntKind.i64 (1 : Int), Value.slice (some { block := k3, off := (0 : Nat) : Addr }) (1 : Nat) (1 : Nat)] cMsg h8 fun (x6 : Msg) (h9 : Hp) =>
                    allocP (Obj.cells { toList := [Value.int IntKind.i64 (9 : Int)] : Array Value } (2 : Nat)) h9 fun (k4 : Nat) (h10 : Hp) =>
                      callP Try.prog (86 : Nat) [Value.int IntKind.i64 (1 : Int), Value.slice (some { block := k4, off := (0 : Nat) : Addr }) (1 : Nat) (1 : Nat)] cMsg h10 fun (x7 : Msg) (h11 : Hp) =>
                        allocP (Obj.cells { toList := [Value.int IntKind.i64 (1 : Int), Value.int IntKind.i64 (1 : Int)] : Array Value } (2 : Nat)) h11 fun (k5 : Nat) (h12 : Hp) =>
                          callP Try.prog (86 : Nat) [Value.int IntKind.i64 (18 : Int), Value.slice (some { block := k5, off := (0 : Nat) : Addr }) (2 : Nat) (2 : Nat)] cMsg h12 fun (x8 : Msg) (h13 : Hp) =>
                            allocP (Obj.cells { toList := [Value.int IntKind.i64 (1 : Int)] : Array Value } (2 : Nat)) h13 fun (k6 : Nat) (h14 : Hp) =>
                              callP Try.prog (86 : Nat) [Value.int IntKind.i64 (12 : Int), Value.slice (some { block := k6, off := (0 : Nat) : Addr }) (1 : Nat) (1 : Nat)] cMsg h14 fun (x9 : Msg) (h15 : Hp) =>
                                allocP
                                  (Obj.cells
                                    {
                                      toList :=
                                        [Value.int IntKind.i64 x1.Kind, Value.int IntKind.i64 x1.F_0, Value.int IntKind.i64 x1.F_1, Value.int IntKind.i64 x1.F_2, Value.int IntKind.i64 x1.F_3, Value.int IntKind.i64 x1.F_4,
                                          Value.int IntKind.i64 x1.F_5, Value.int IntKind.i64 x2.Kind, Value.int IntKind.i64 x2.F_0, Value.int IntKind.i64 x2.F_1, Value.int IntKind.i64 x2.F_2, Value.int IntKind.i64 x2.F_3,
                                          Value.int IntKind.i64 x2.F_4, Value.int IntKind.i64 x2.F_5, Value.int IntKind.i64 x3.Kind, Value.int IntKind.i64 x3.F_0, Value.int IntKind.i64 x3.F_1, Value.int IntKind.i64 x3.F_2,
                                          Value.int IntKind.i64 x3.F_3, Value.int IntKind.i64 x3.F_4, Value.int IntKind.i64 x3.F_5, Value.int IntKind.i64 x4.Kind, Value.int IntKind.i64 x4.F_0, Value.int IntKind.i64 x4.F_1,
                                          Value.int IntKind.i64 x4.F_2, Value.int IntKind.i64 x4.F_3, Value.int IntKind.i64 x4.F_4, Value.int IntKind.i64 x4.F_5, Value.int IntKind.i64 x5.Kind, Value.int IntKind.i64 x5.F_0,
                                          Value.int IntKind.i64 x5.F_1, Value.int IntKind.i64 x5.F_2, Value.int IntKind.i64 x5.F_3, Value.int IntKind.i64 x5.F_4, Value.int IntKind.i64 x5.F_5, Value.int IntKind.i64 x6.Kind,
                                          Value.int IntKind.i64 x6.F_0, Value.int IntKind.i64 x6.F_1, Value.int IntKind.i64 x6.F_2, Value.int IntKind.i64 x6.F_3, Value.int IntKind.i64 x6.F_4, Value.int IntKind.i64 x6.F_5,
                                          Value.int IntKind.i64 x7.Kind, Value.int IntKind.i64 x7.F_0, Value.int IntKind.i64 x7.F_1, Value.int IntKind.i64 x7.F_2, Value.int IntKind.i64 x7.F_3, Value.int IntKind.i64 x7.F_4,
                                          Value.int IntKind.i64 x7.F_5, Value.int IntKind.i64 x8.Kind, Value.int IntKind.i64 x8.F_0, Value.int IntKind.i64 x8.F_1, Value.int IntKind.i64 x8.F_2, Value.int IntKind.i64 x8.F_3,
                                          Value.int IntKind.i64 x8.F_4, Value.int IntKind.i64 x8.F_5, Value.int IntKind.i64 x9.Kind, Value.int IntKind.i64 x9.F_0, Value.int IntKind.i64 x9.F_1, Value.int IntKind.i64 x9.F_2,
                                          Value.int IntKind.i64 x9.F_3, Value.int IntKind.i64 x9.F_4, Value.int IntKind.i64 x9.F_5] :
                                      Array Value }
                                    (46 : Nat))
                                  h15 fun (k7 : Nat) (h16 : Hp) =>
                                  allocP
                                    (Obj.cells
                                      {
                                        toList :=
                                          [Value.int IntKind.i64 (0 : Int), Value.int IntKind.i64 (2 : Int), Value.int IntKind.i64 (27 : Int), Value.int IntKind.i64 (5 : Int), Value.int IntKind.i64 (0 : Int),
                                            Value.int IntKind.i64 (1 : Int), Value.int IntKind.i64 (0 : Int), Value.int IntKind.i64 (0 : Int), Value.int IntKind.i64 (0 : Int)] :
                                        Array Value }
                                      (3 : Nat))
                                    h16 fun (k8 : Nat) (h17 : Hp) =>
                                    allocP
                                      (Obj.cells { toList := [Value.bool false, Value.bool false, Value.bool false, Value.bool true, Value.bool true, Value.bool false, Value.bool true, Value.bool false, Value.bool false] : Array Value }
                                        (4 : Nat))
                                      h17 fun (k9 : Nat) (h18 : Hp) =>
                                      joinP
                                        (fun (t1 : Bool) (h19 : Hp) =>
                                          condP t1 (Q true h19)
                                            (callP Try.prog (82 : Nat) [Value.int IntKind.i64 (9 : Int)] cP h19 fun (p1 : Option Addr) (h20 : Hp) =>
                                              allocP (Obj.cells { toList := [Value.int IntKind.i64 (1 : Int)] : Array Value } (2 : Nat)) h20 fun (k10 : Nat) (h21 : Hp) =>
                                                callP Try.prog (86 : Nat) [Value.int IntKind.i64 (1 : Int), Value.slice (some { block := k10, off := (0 : Nat) : Addr }) (1 : Nat) (1 : Nat)] cMsg h21 fun (x10 : Msg) (h22 : Hp) =>
                                                  callP Try.prog (83 : Nat)
                                                    [Value.pointer p1,
                                                      Value.agg
                                                        {
                                                          toList :=
                                                            [Value.int IntKind.i64 (0 : Int), Value.int IntKind.i64 x10.Kind, Value.int IntKind.i64 x10.F_0, Value.int IntKind.i64 x10.F_1, Value.int IntKind.i64 x10.F_2,
                                                              Value.int IntKind.i64 x10.F_3, Value.int IntKind.i64 x10.F_4, Value.int IntKind.i64 x10.F_5] :
                                                          Array Value }]
                                                    (tupC [cSl, cMsg, cB, cB]) h22 fun (z1 : Sl × Msg × Bool × Bool) (h23 : Hp) =>
                                                    allocP (Obj.cells { toList := [Value.int IntKind.i64 (5 : Int)] : Array Value } (2 : Nat)) h23 fun (k11 : Nat) (h24 : Hp) =>
                                                      callP Try.prog (86 : Nat) [Value.int IntKind.i64 (27 : Int), Value.slice (some { block := k11, off := (0 : Nat) : Addr }) (1 : Nat) (1 : Nat)] cMsg h24 fun (x11 : Msg) (h25 : Hp) =>
                                                        callP Try.prog (102 : Nat)
                                                          [Value.pointer p1,
                                                            Value.agg
                                                              {
                                                                toList :=
                                                                  [Value.int IntKind.i64 x11.Kind, Value.int IntKind.i64 x11.F_0, Value.int IntKind.i64 x11.F_1, Value.int IntKind.i64 x11.F_2, Value.int IntKind.i64 x11.F_3,
                                                                    Value.int IntKind.i64 x11.F_4, Value.int IntKind.i64 x11.F_5] :
                                                                Array Value }]
                                                          (tupC [cFrame, cB]) h25 fun (z2 : Frame × Bool) (h26 : Hp) =>
                                                          idxP (some { block := k7, off := (0 : Nat) : Addr }) (9 : Nat) p0 fun (a1 : Addr) =>
                                                            loadP cMsg (a1.add (p0.toNat * (7 : Nat))) h26 fun (x12 : Msg) =>
                                                              callP Try.prog (83 : Nat)
                                                                [Value.pointer p1,
                                                                  Value.agg
                                                                    {
                                                                      toList :=
                                                                        [Value.int IntKind.i64 (0 : Int), Value.int IntKind.i64 x12.Kind, Value.int IntKind.i64 x12.F_0, Value.int IntKind.i64 x12.F_1, Value.int IntKind.i64 x12.F_2,
                                                                          Value.int IntKind.i64 x12.F_3, Value.int IntKind.i64 x12.F_4, Value.int IntKind.i64 x12.F_5] :
                                                                      Array Value }]
                                                                (tupC [cSl, cMsg, cB, cB]) h26 fun (z3 : Sl × Msg × Bool × Bool) (h27 : Hp) =>
                                                                joinP
                                                                  (fun (t2 : Bool) (h28 : Hp) =>
                                                                    condP t2 (Q false h28)
                                                                      (callP Try.prog (86 : Nat) [Value.int IntKind.i64 (2 : Int), Value.slice none (0 : Nat) (0 : Nat)] cMsg h28 fun (x13 : Msg) (h29 : Hp) =>
                                                                        callP Try.prog (102 : Nat)
                                                                          [Value.pointer p1,
                                                                            Value.agg
                                                                              {
                                                                                toList :=
                                                                                  [Value.int IntKind.i64 x13.Kind, Value.int IntKind.i64 x13.F_0, Value.int IntKind.i64 x13.F_1, Value.int IntKind.i64 x13.F_2, Value.int IntKind.i64 x13.F_3,
                                                                                    Value.int IntKind.i64 x13.F_4, Value.int IntKind.i64 x13.F_5] :
                                                                                Array Value }]
                                                                          (tupC [cFrame, cB]) h29 fun (z4 : Frame × Bool) (h30 : Hp) =>
                                                                          condP ((↑z3.fst.len : Int) == (0 : Int))
                                                                            (condP (!z4.snd)
                                                                              (callP Try.prog (84 : Nat) [Value.pointer p1] (cI IntKind.i64) h30 fun (n1 : Int) (h31 : Hp) =>
                                                                                condP (n1 == (1 : Int)) (callP Try.prog (85 : Nat) [] cB h31 fun (t3 : Bool) (h32 : Hp) => Q t3 h32) (Q false h31))
                                                                              (Q false h30))
                                                                            (idxP z3.fst.a z3.fst.len (0 : Int) fun (a2 : Addr) =>
                                                                              idxP (some { block := k8, off := (0 : Nat) : Addr }) (9 : Nat) p0 fun (a3 : Addr) =>
                                                                                loadP (cI IntKind.i64) { block := (a2.add (0 : Nat)).block, off := (a2.add (0 : Nat)).off + (1 : Nat) : Addr } h30 fun (n2 : Int) =>
                                                                                  loadP (cI IntKind.i64) (a3.add (p0.toNat * (1 : Nat))) h30 fun (n3 : Int) =>
                                                                                    condP (n2 == n3)
                                                                                      (condP (!z4.snd)
                                                                                        (callP Try.prog (84 : Nat) [Value.pointer p1] (cI IntKind.i64) h30 fun (n4 : Int) (h33 : Hp) =>
                                                                                          condP (n4 == (1 : Int)) (callP Try.prog (85 : Nat) [] cB h33 fun (t4 : Bool) (h34 : Hp) => Q t4 h34) (Q false h33))
                                                                                        (Q false h30))
                                                                                      (Q false h30))))
                                                                  fun (J1 : Bool → Hp → Prop) =>
                                                                  condP z3.snd.snd.fst (J1 true h27)
                                                                    (condP
                                                                      (!(z3.snd.fst.Kind == (0 : Int) &&
                                                                          (z3.snd.fst.F_0 == (0 : Int) &&
                                                                            (z3.snd.fst.F_1 == (0 : Int) &&
                                                                              (z3.snd.fst.F_2 == (0 : Int) && (z3.snd.fst.F_3 == (0 : Int) && (z3.snd.fst.F_4 == (0 : Int) && (z3.snd.fst.F_5 == (0 : Int) && true))))))))
                                                                      (J1 true h27)
                                                                      (idxP (some { block := k9, off := (0 : Nat) : Addr }) (9 : Nat) p0 fun (a4 : Addr) =>
                                                                        loadP cB (a4.add (p0.toNat * (1 : Nat))) h27 fun (t5 : Bool) =>
                                                                          condP (!z3.snd.snd.snd == t5) (J1 true h27)
                                                                            (callP Try.prog (88 : Nat) [Value.pointer p1] cB h27 fun (t6 : Bool) (h35 : Hp) =>
                                                                              condP (t6 == z3.snd.snd.snd) (J1 true h35)
                                                                                (idxP (some { block := k8, off := (0 : Nat) : Addr }) (9 : Nat) p0 fun (a5 : Addr) =>
                                                                                  loadP (cI IntKind.i64) (a5.add (p0.toNat * (1 : Nat))) h35 fun (n5 : Int) => J1 (!((↑z3.fst.len : Int) == (1 : Int)) == (n5 != (0 : Int))) h35))))))
                                        fun (J2 : Bool → Hp → Prop) => condP (decide (p0 < (0 : Int))) (J2 true h18) (J2 (decide (p0 ≥ (9 : Int))) h18)
theorem e36 (p0 : Int) (h : Hp) (Q : Bool → Hp → Prop) : fnD a36 Try.prog 36 n36 (cB) [Value.int IntKind.i64 p0] h Q = F36 p0 h Q := by kernel_rfl
theorem c36 {p0 : Int} {h : Hp} {Q : Bool → Hp → Prop} (hk : F36 p0 h Q) : callP Try.prog 36 [Value.int IntKind.i64 p0] (cB) h Q :=
  spec_of (prem_of prog_ok dep_ok eqs_ok rfl (by kernel_rfl)) mix_ok ((e36 p0 h Q).mpr hk)
def a37 : Ann := { prom := 2368, refs := [(63, 8)], dyn := 0, bcd := fun s => match s with | 6 => some (cFrame) | 8 => some (cFrame) | 11 => some (cMsg) | _ => none, eqs := memL eqL, cdc := cdcs, res := ress, pure := memL [97], pan := memL [122, 137] }
def n37 : An := (.seq (.reg []) (.seq (.seq (.reg []) (.cond (.seq (.reg []) .leaf) .leaf)) (.seq (.reg []) (.seq (.reg []) (.seq (.seq (.reg []) (.block (.loop [(7, false, cI .i64)] 590295810358672098192 (.seq (.join [(32, false, cB)] 8556380160 (.reg []) (.cond .leaf .leaf)) (.seq (.block (.join [] 281440616972288 (.seq (.reg []) (.cond (.reg []) (.reg []))) (.seq (.reg []) (.join [(68, false, cB)] 590223752764667723776 (.reg []) (.cond (.seq (.reg []) .leaf) .leaf))))) (.reg [])))))) (.seq (.reg []) (.seq (.reg []) (.seq (.reg []) (.join [(15, false, cB)] 79225744662625108335194570752 (.reg []) (.seq (.join [(102, false, cB)] 10061976639311570874380081692672 (.reg []) (.cond (.seq (.reg []) .leaf) .leaf)) (.seq (.seq (.reg []) (.cond (.seq (.reg []) .leaf) .leaf)) (.seq (.seq (.reg []) (.cond (.seq (.reg []) .leaf) .leaf)) (.seq (.seq (.reg []) (.block (.loop [(16, false, cI .i64)] 1427247692373652882112057001223543371312726032 (.seq (.seq (.reg []) (.cond .leaf .leaf)) (.seq (.block (.join [(149, false, cB)] 1427247671438311948499632002988582171897233408 (.reg [(0, []), (1, []), (2, []), (3, []), (5, []), (6, []), (7, []), (8, []), (4, []), (9, []), (10, []), (11, []), (12, []), (13, []), (14, []), (15, []), (16, []), (18, []), (19, []), (20, []), (21, []), (17, []), (22, []), (23, []), (24, []), (25, [])]) (.cond (.seq (.reg []) .leaf) .leaf))) (.reg [])))))) (.seq (.reg []) .leaf))))))))))))))
/-- consols/consolslaw10.SessSends -/
def F37 (p0 : Sl) (p1 : Int) (h : Hp) (Q : Bool → Hp → Prop) : Prop :=
  condP (decide ((↑p0.len : Int) > (100 : Int))) (Q true h)
    (callP Try.prog (82 : Nat) [Value.int IntKind.i64 (5 : Int)] cP h fun (p1_1 : Option Addr) (h1 : Hp) =>
      loopP (0 : Int) h1 fun (J1 : Int → Hp → Prop) (n1 : Int) (h2 : Hp) =>
        joinP
          (fun (t1 : Bool) (h3 : Hp) =>
            condP t1
              (joinP
                (fun (u1 : PUnit) (h4 : Hp) =>
                  callP Try.prog (102 : Nat)
                    [Value.pointer p1_1,
                      Value.agg
                        {
                          toList :=
                            [Value.int IntKind.i64 (27 : Int), Value.int IntKind.i64 n1, Value.int IntKind.i64 (0 : Int), Value.int IntKind.i64 (0 : Int), Value.int IntKind.i64 (0 : Int), Value.int IntKind.i64 (0 : Int),
                              Value.int IntKind.i64 (0 : Int)] :
                          Array Value }]
                    (tupC [cFrame, cB]) h4 fun (z1 : Frame × Bool) (h5 : Hp) =>
                    joinP (fun (t2 : Bool) (h6 : Hp) => condP t2 (Q false h6) (J1 (IntKind.i64.wrap (n1 + (1 : Int))) h6)) fun (J2 : Bool → Hp → Prop) =>
                      idxP p0.a p0.len n1 fun (a1 : Addr) => loadP cB (a1.add (n1.toNat * (1 : Nat))) h5 fun (t3 : Bool) => condP (!z1.snd == t3) (J2 true h5) (J2 (z1.fst.Seq != IntKind.i64.wrap (n1 + (1 : Int))) h5))
                fun (J3 : PUnit → Hp → Prop) =>
                idxP p0.a p0.len n1 fun (a2 : Addr) =>
                  loadP cB (a2.add (n1.toNat * (1 : Nat))) h3 fun (t4 : Bool) =>
                    condP t4
                      (callP Try.prog (83 : Nat)
                        [Value.pointer p1_1,
                          Value.agg
                            {
                              toList :=
                                [Value.int IntKind.i64 (0 : Int), Value.int IntKind.i64 (1 : Int), Value.int IntKind.i64 (IntKind.i64.wrap (n1 + (1 : Int))), Value.int IntKind.i64 (0 : Int), Value.int IntKind.i64 (0 : Int),
                                  Value.int IntKind.i64 (0 : Int), Value.int IntKind.i64 (0 : Int), Value.int IntKind.i64 (0 : Int)] :
                              Array Value }]
                        (tupC [cSl, cMsg, cB, cB]) h3 fun (z2 : Sl × Msg × Bool × Bool) (h7 : Hp) => J3 PUnit.unit h7)
                      (callP Try.prog (103 : Nat) [Value.pointer p1_1] cB h3 fun (t5 : Bool) (h8 : Hp) => J3 PUnit.unit h8))
              (callP Try.prog (103 : Nat) [Value.pointer p1_1] cB h3 fun (t6 : Bool) (h9 : Hp) =>
                callP Try.prog (83 : Nat)
                  [Value.pointer p1_1,
                    Value.agg
                      {
                        toList :=
                          [Value.int IntKind.i64 (0 : Int), Value.int IntKind.i64 (1 : Int), Value.int IntKind.i64 p1, Value.int IntKind.i64 (0 : Int), Value.int IntKind.i64 (0 : Int), Value.int IntKind.i64 (0 : Int),
                            Value.int IntKind.i64 (0 : Int), Value.int IntKind.i64 (0 : Int)] :
                        Array Value }]
                  (tupC [cSl, cMsg, cB, cB]) h9 fun (z3 : Sl × Msg × Bool × Bool) (h10 : Hp) =>
                  joinP
                    (fun (t7 : Bool) (h11 : Hp) =>
                      joinP
                        (fun (t8 : Bool) (h12 : Hp) =>
                          condP t8 (Q false h12)
                            (condP (!t7) (condP ((↑z3.fst.len : Int) == (0 : Int)) (callP Try.prog (85 : Nat) [] cB h12 fun (t9 : Bool) (h13 : Hp) => Q t9 h13) (Q false h12))
                              (condP ((↑z3.fst.len : Int) != IntKind.i64.wrap (IntKind.i64.wrap ((↑p0.len : Int) + (2 : Int)) - p1)) (Q false h12)
                                (loopP (1 : Int) h12 fun (J4 : Int → Hp → Prop) (n2 : Int) (h14 : Hp) =>
                                  condP (decide (n2 < (↑z3.fst.len : Int)))
                                    (joinP (fun (t10 : Bool) (h15 : Hp) => condP t10 (Q false h15) (J4 (IntKind.i64.wrap (n2 + (1 : Int))) h15)) fun (J5 : Bool → Hp → Prop) =>
                                      idxP z3.fst.a z3.fst.len n2 fun (a3 : Addr) =>
                                        loadP (cI IntKind.i64) ((a3.add (n2.toNat * (8 : Nat))).add (0 : Nat)) h14 fun (n3 : Int) =>
                                          condP (n3 != IntKind.i64.wrap (IntKind.i64.wrap (p1 + n2) - (1 : Int))) (J5 true h14)
                                            (idxP z3.fst.a z3.fst.len n2 fun (a4 : Addr) =>
                                              atP (6 : Nat) (0 : Int)
                                                (idxP z3.fst.a z3.fst.len n2 fun (a5 : Addr) =>
                                                  loadP (cI IntKind.i64) { block := (a4.add (n2.toNat * (8 : Nat))).block, off := (a4.add (n2.toNat * (8 : Nat))).off + (1 : Nat) + (1 : Nat) : Addr } h14 fun (n4 : Int) =>
                                                    loadP (cI IntKind.i64) ((a5.add (n2.toNat * (8 : Nat))).add (0 : Nat)) h14 fun (n5 : Int) => J5 (n4 != IntKind.i64.wrap (n5 - (1 : Int))) h14)))
                                    (idxP z3.fst.a z3.fst.len (0 : Int) fun (a6 : Addr) =>
                                      loadP (cI IntKind.i64) { block := (a6.add (0 : Nat)).block, off := (a6.add (0 : Nat)).off + (1 : Nat) : Addr } h14 fun (n6 : Int) =>
                                        condP (n6 == (1 : Int))
                                          (idxP z3.fst.a z3.fst.len (0 : Int) fun (a7 : Addr) =>
                                            atP (6 : Nat) (0 : Int)
                                              (loadP (cI IntKind.i64) { block := (a7.add (0 : Nat)).block, off := (a7.add (0 : Nat)).off + (1 : Nat) + (1 : Nat) : Addr } h14 fun (n7 : Int) =>
                                                condP (n7 == (1 : Int)) (callP Try.prog (85 : Nat) [] cB h14 fun (t11 : Bool) (h16 : Hp) => Q t11 h16) (Q false h14)))
                                          (Q false h14))))))
                        fun (J6 : Bool → Hp → Prop) => condP z3.snd.snd.snd (J6 true h11) (callP Try.prog (88 : Nat) [Value.pointer p1_1] cB h11 fun (t12 : Bool) (h17 : Hp) => J6 (!t12 == t7) h17))
                    fun (J7 : Bool → Hp → Prop) =>
                    condP (decide (p1 ≥ (1 : Int)))
                      (condP (decide (p1 ≤ IntKind.i64.wrap ((↑p0.len : Int) + (1 : Int)))) (J7 (decide (p1 ≥ IntKind.i64.wrap (IntKind.i64.wrap ((↑p0.len : Int) + (1 : Int)) - (64 : Int)))) h10) (J7 false h10)) (J7 false h10)))
          fun (J8 : Bool → Hp → Prop) => condP (!p1_1.isNone) (J8 (decide (n1 < (↑p0.len : Int))) h2) (J8 false h2))
theorem e37 (p0 : Sl) (p1 : Int) (h : Hp) (Q : Bool → Hp → Prop) : fnD a37 Try.prog 37 n37 (cB) [Value.slice p0.a p0.len p0.cap, Value.int IntKind.i64 p1] h Q = F37 p0 p1 h Q := by kernel_rfl
theorem c37 {p0 : Sl} {p1 : Int} {h : Hp} {Q : Bool → Hp → Prop} (hk : F37 p0 p1 h Q) : callP Try.prog 37 [Value.slice p0.a p0.len p0.cap, Value.int IntKind.i64 p1] (cB) h Q :=
  spec_of (prem_of prog_ok dep_ok eqs_ok rfl (by kernel_rfl)) mix_ok ((e37 p0 p1 h Q).mpr hk)
def a38 : Ann := { prom := 1345792, refs := [(53, 8), (56, 8), (90, 8), (99, 8), (128, 8), (129, 8), (136, 8), (137, 8)], dyn := 0, bcd := fun s => match s with | 8 => some (cL10Act) | 11 => some (cMsg) | 15 => some (cMsg) | 18 => some (cFrame) | 20 => some (cFrame) | _ => none, eqs := memL eqL, cdc := cdcs, res := ress, pure := memL [97], pan := memL [122, 137] }
def n38 : An := (.seq (.reg []) (.seq (.seq (.reg []) (.cond (.seq (.reg []) .leaf) .leaf)) (.seq (.reg []) (.seq (.seq (.reg []) (.cond (.seq (.reg []) .leaf) .leaf)) (.seq (.seq (.reg []) (.block (.loop [(7, false, cI .i64)] 191561942608236107294793378393788647952341840651354000 (.seq (.join [(46, false, cB)] 140187732541440 (.reg []) (.cond .leaf .leaf)) (.seq (.block (.seq (.reg []) (.seq (.reg []) (.seq (.seq (.reg []) (.blockJ [(9, false, cB)] 182687704666362864775460604089499348660106821120 (.seq (.reg []) (.cond (.seq (.reg []) (.seq (.reg []) (.reg []))) (.seq (.reg []) (.cond (.seq (.reg []) (.seq (.reg []) (.reg []))) (.seq (.reg []) (.cond (.reg []) (.seq (.reg []) (.block (.loop [(9, false, cB), (22, false, cI .i64)] 77371252419307470292255232 (.seq (.join [(62, false, cB)] 9187343239835811840 (.reg []) (.cond .leaf .leaf)) (.seq (.blockJ [(9, false, cB)] 77371215561848119887921664 (.seq (.reg []) (.seq (.reg []) (.reg [])))) (.reg [])))))))))))))) (.join [(176, false, cB)] 191561759920531440931928602933184558416964933281382400 (.reg [(0, []), (1, []), (2, []), (3, []), (5, []), (6, []), (7, []), (8, []), (4, [8]), (9, []), (10, []), (11, []), (12, []), (14, []), (15, []), (16, []), (17, []), (13, [17]), (18, []), (19, [])]) (.cond (.seq (.reg []) .leaf) .leaf)))))) (.reg [])))))) (.seq (.reg []) .leaf))))))
/-- consols/consolslaw10.SessPlays -/
def F38 (p0 : Int) (p1 : Sl) (h : Hp) (Q : Bool → Hp → Prop) : Prop :=
  condP (decide ((↑p1.len : Int) > (120 : Int))) (Q true h)
    (callP Try.prog (82 : Nat) [Value.int IntKind.i64 p0] cP h fun (p1_1 : Option Addr) (h1 : Hp) =>
      callP Try.prog (104 : Nat) [Value.int IntKind.i64 p0] cP h1 fun (p2 : Option Addr) (h2 : Hp) =>
        condP (!p1_1.isNone == p2.isNone) (Q false h2)
          (loopP (0 : Int) h2 fun (J1 : Int → Hp → Prop) (n1 : Int) (h3 : Hp) =>
            joinP
              (fun (t1 : Bool) (h4 : Hp) =>
                condP t1
                  (idxP p1.a p1.len n1 fun (a1 : Addr) =>
                    loadP cL10Act (a1.add (n1.toNat * (10 : Nat))) h4 fun (x1 : L10Act) =>
                      joinP
                        (fun (t2 : Bool) (h5 : Hp) =>
                          joinP (fun (t3 : Bool) (h6 : Hp) => condP t3 (Q false h6) (J1 (IntKind.i64.wrap (n1 + (1 : Int))) h6)) fun (J2 : Bool → Hp → Prop) =>
                            condP (!t2) ((True ∧ True) ∧ (True ∧ True) ∧ J2 true h5)
                              (nilP p2 fun (a2 : Addr) =>
                                loadP cB { block := a2.block, off := a2.off + (1 : Nat) : Addr } h5 fun (t4 : Bool) =>
                                  callP Try.prog (88 : Nat) [Value.pointer p1_1] cB h5 fun (t5 : Bool) (h7 : Hp) =>
                                    (h7.rds { block := a2.block, off := a2.off + (1 : Nat) : Addr } [Value.bool t4] ∧ True) ∧
                                      condP (!t5 == t4) ((True ∧ True) ∧ J2 true h7)
                                        (nilP p2 fun (a3 : Addr) =>
                                          loadP (cI IntKind.i64) { block := a3.block, off := a3.off + (2 : Nat) : Addr } h7 fun (n2 : Int) =>
                                            callP Try.prog (84 : Nat) [Value.pointer p1_1] (cI IntKind.i64) h7 fun (n3 : Int) (h8 : Hp) =>
                                              (h8.rds { block := a3.block, off := a3.off + (2 : Nat) : Addr } [Value.int IntKind.i64 n2] ∧ True) ∧ J2 (n3 != n2) h8)))
                        fun (J3 : Bool → Hp → Prop) =>
                        condP (x1.Kind == (1 : Int))
                          (callP Try.prog (83 : Nat)
                            [Value.pointer p1_1,
                              Value.agg
                                {
                                  toList :=
                                    [Value.int IntKind.i64 x1.Frame_Seq, Value.int IntKind.i64 x1.Frame_Msg_Kind, Value.int IntKind.i64 x1.Frame_Msg_F_0, Value.int IntKind.i64 x1.Frame_Msg_F_1, Value.int IntKind.i64 x1.Frame_Msg_F_2,
                                      Value.int IntKind.i64 x1.Frame_Msg_F_3, Value.int IntKind.i64 x1.Frame_Msg_F_4, Value.int IntKind.i64 x1.Frame_Msg_F_5] :
                                  Array Value }]
                            (tupC [cSl, cMsg, cB, cB]) h4 fun (z1 : Sl × Msg × Bool × Bool) (h9 : Hp) =>
                            callP Try.prog (105 : Nat)
                              [Value.pointer p2,
                                Value.agg
                                  {
                                    toList :=
                                      [Value.int IntKind.i64 x1.Frame_Seq, Value.int IntKind.i64 x1.Frame_Msg_Kind, Value.int IntKind.i64 x1.Frame_Msg_F_0, Value.int IntKind.i64 x1.Frame_Msg_F_1, Value.int IntKind.i64 x1.Frame_Msg_F_2,
                                        Value.int IntKind.i64 x1.Frame_Msg_F_3, Value.int IntKind.i64 x1.Frame_Msg_F_4, Value.int IntKind.i64 x1.Frame_Msg_F_5] :
                                    Array Value }]
                              (tupC [cSl, cMsg, cB, cB]) h9 fun (z2 : Sl × Msg × Bool × Bool) (h10 : Hp) =>
                              callP Try.prog (53 : Nat) [Value.slice z1.fst.a z1.fst.len z1.fst.cap, Value.slice z2.fst.a z2.fst.len z2.fst.cap] cB h10 fun (t6 : Bool) (h11 : Hp) =>
                                condP t6
                                  (condP
                                    (z1.snd.fst.Kind == z2.snd.fst.Kind &&
                                      (z1.snd.fst.F_0 == z2.snd.fst.F_0 &&
                                        (z1.snd.fst.F_1 == z2.snd.fst.F_1 && (z1.snd.fst.F_2 == z2.snd.fst.F_2 && (z1.snd.fst.F_3 == z2.snd.fst.F_3 && (z1.snd.fst.F_4 == z2.snd.fst.F_4 && (z1.snd.fst.F_5 == z2.snd.fst.F_5 && true)))))))
                                    (condP (z1.snd.snd.fst == z2.snd.snd.fst) (J3 (z1.snd.snd.snd == z2.snd.snd.snd) h11) (J3 false h11)) (J3 false h11))
                                  (J3 false h11))
                          (condP (x1.Kind == (2 : Int))
                            (callP Try.prog (102 : Nat)
                              [Value.pointer p1_1,
                                Value.agg
                                  {
                                    toList :=
                                      [Value.int IntKind.i64 x1.Frame_Msg_Kind, Value.int IntKind.i64 x1.Frame_Msg_F_0, Value.int IntKind.i64 x1.Frame_Msg_F_1, Value.int IntKind.i64 x1.Frame_Msg_F_2, Value.int IntKind.i64 x1.Frame_Msg_F_3,
                                        Value.int IntKind.i64 x1.Frame_Msg_F_4, Value.int IntKind.i64 x1.Frame_Msg_F_5] :
                                    Array Value }]
                              (tupC [cFrame, cB]) h4 fun (z3 : Frame × Bool) (h12 : Hp) =>
                              callP Try.prog (106 : Nat)
                                [Value.pointer p2,
                                  Value.agg
                                    {
                                      toList :=
                                        [Value.int IntKind.i64 x1.Frame_Msg_Kind, Value.int IntKind.i64 x1.Frame_Msg_F_0, Value.int IntKind.i64 x1.Frame_Msg_F_1, Value.int IntKind.i64 x1.Frame_Msg_F_2,
                                          Value.int IntKind.i64 x1.Frame_Msg_F_3, Value.int IntKind.i64 x1.Frame_Msg_F_4, Value.int IntKind.i64 x1.Frame_Msg_F_5] :
                                      Array Value }]
                                (tupC [cFrame, cB]) h12 fun (z4 : Frame × Bool) (h13 : Hp) =>
                                condP
                                  (z3.fst.Seq == z4.fst.Seq &&
                                    (z3.fst.Msg_Kind == z4.fst.Msg_Kind &&
                                      (z3.fst.Msg_F_0 == z4.fst.Msg_F_0 &&
                                        (z3.fst.Msg_F_1 == z4.fst.Msg_F_1 && (z3.fst.Msg_F_2 == z4.fst.Msg_F_2 && (z3.fst.Msg_F_3 == z4.fst.Msg_F_3 && (z3.fst.Msg_F_4 == z4.fst.Msg_F_4 && (z3.fst.Msg_F_5 == z4.fst.Msg_F_5 && true))))))))
                                  (J3 (z3.snd == z4.snd) h13) (J3 false h13))
                            (condP (x1.Kind == (3 : Int))
                              (callP Try.prog (103 : Nat) [Value.pointer p1_1] cB h4 fun (t7 : Bool) (h14 : Hp) => callP Try.prog (107 : Nat) [Value.pointer p2] cB h14 fun (t8 : Bool) (h15 : Hp) => J3 (t7 == t8) h15)
                              (loopP (true, (0 : Int)) h4 fun (J4 : Bool × Int → Hp → Prop) (z5 : Bool × Int) (h16 : Hp) =>
                                joinP
                                  (fun (t9 : Bool) (h17 : Hp) =>
                                    condP t9
                                      (joinP (fun (t10 : Bool) (h18 : Hp) => J4 (t10, IntKind.i64.wrap (z5.snd + (1 : Int))) h18) fun (J5 : Bool → Hp → Prop) =>
                                        callP Try.prog (87 : Nat) [Value.pointer p1_1] (tupC [cSl, cB]) h17 fun (z6 : Sl × Bool) (h19 : Hp) =>
                                          callP Try.prog (108 : Nat) [Value.pointer p2] (tupC [cSl, cB]) h19 fun (z7 : Sl × Bool) (h20 : Hp) =>
                                            condP z5.fst
                                              (callP Try.prog (53 : Nat) [Value.slice z6.fst.a z6.fst.len z6.fst.cap, Value.slice z7.fst.a z7.fst.len z7.fst.cap] cB h20 fun (t11 : Bool) (h21 : Hp) =>
                                                condP t11 (J5 (z6.snd == z7.snd) h21) (J5 false h21))
                                              (J5 false h20))
                                      (J3 z5.fst h17))
                                  fun (J6 : Bool → Hp → Prop) => condP (decide (z5.snd < x1.Many)) (J6 (decide (z5.snd < (40 : Int))) h16) (J6 false h16)))))
                  (callP Try.prog (85 : Nat) [] cB h4 fun (t12 : Bool) (h22 : Hp) => Q t12 h22))
              fun (J7 : Bool → Hp → Prop) => condP (!p2.isNone) (J7 (decide (n1 < (↑p1.len : Int))) h3) (J7 false h3)))
theorem e38 (p0 : Int) (p1 : Sl) (h : Hp) (Q : Bool → Hp → Prop) : fnD a38 Try.prog 38 n38 (cB) [Value.int IntKind.i64 p0, Value.slice p1.a p1.len p1.cap] h Q = F38 p0 p1 h Q := by kernel_rfl
theorem c38 {p0 : Int} {p1 : Sl} {h : Hp} {Q : Bool → Hp → Prop} (hk : F38 p0 p1 h Q) : callP Try.prog 38 [Value.int IntKind.i64 p0, Value.slice p1.a p1.len p1.cap] (cB) h Q :=
  spec_of (prem_of prog_ok dep_ok eqs_ok rfl (by kernel_rfl)) mix_ok ((e38 p0 p1 h Q).mpr hk)
end Go.Proofs.Ytmkgcdgpokidjaa
