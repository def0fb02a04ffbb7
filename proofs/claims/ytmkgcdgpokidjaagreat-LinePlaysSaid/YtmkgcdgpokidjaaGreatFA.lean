/- What the functions say, each as one statement: made by program (drive.py). -/
import Derived.Test.YtmkgcdgpokidjaaGreatTy
set_option linter.unusedVariables false
set_option maxRecDepth 20000
namespace Go.Proofs.YtmkgcdgpokidjaaGreat
open Go.Eng
def a22 : Ann := { prom := 0, refs := [], dyn := 0, bcd := fun s => match s with | _ => none, eqs := memL eqL, cdc := cdcs, res := ress, pure := memL [49], pan := memL [48, 81] }
def n22 : An := (.seq (.reg []) (.seq (.join [(8, false, cB)] 504 (.reg []) (.cond (.seq (.reg []) .leaf) .leaf)) (.seq (.reg []) .leaf)))
/-- consols/mail.New -/
def F22 (p0 : Int) (h : Hp) (Q : Option Addr → Hp → Prop) : Prop :=
  joinP
    (fun (t1 : Bool) (h1 : Hp) =>
      condP t1 (Q none h1)
        (makeChP p0 (24 : Nat)
          (allocP (Obj.chan p0.toNat { toList := [] : Array Value } false (0 : Nat) (0 : Nat) false) h1 fun (k1 : Nat) (h2 : Hp) =>
            allocP (Obj.cells { toList := [Value.chan (some k1), Value.bool false] : Array Value } (91 : Nat)) h2 fun (k2 : Nat) (h3 : Hp) => Q (some { block := k2, off := (0 : Nat) : Addr }) h3)))
    fun (J1 : Bool → Hp → Prop) => condP (decide (p0 < (1 : Int))) (J1 true h) (J1 (decide (p0 > (256 : Int))) h)
theorem e22 (p0 : Int) (h : Hp) (Q : Option Addr → Hp → Prop) : fnD a22 Tryz.prog 22 n22 (cP) [Value.int IntKind.i64 p0] h Q = F22 p0 h Q := by kernel_rfl
theorem c22 {p0 : Int} {h : Hp} {Q : Option Addr → Hp → Prop} (hk : F22 p0 h Q) : callP Tryz.prog 22 [Value.int IntKind.i64 p0] (cP) h Q :=
  spec_of (prem_of prog_ok dep_ok eqs_ok rfl (by kernel_rfl)) mix_ok ((e22 p0 h Q).mpr hk)
def a55 : Ann := { prom := 0, refs := [], dyn := 0, bcd := fun s => match s with | _ => none, eqs := memL eqL, cdc := cdcs, res := ress, pure := memL [49], pan := memL [48, 81] }
def n55 : An := (.seq (.reg []) (.seq (.join [(12, false, cB)] 8160 (.reg []) (.cond (.seq (.reg []) .leaf) .leaf)) (.seq (.seq (.reg []) (.reg [])) (.seq (.reg []) (.block (.cond (.seq (.reg []) .leaf) (.seq (.reg []) .leaf)))))))
/-- (*consols/mail.Box).Put -/
def F55 (p0 : Option Addr) (p1 : Sl) (h : Hp) (Q : Bool → Hp → Prop) : Prop :=
  joinP
    (fun (t1 : Bool) (h1 : Hp) =>
      condP t1 (Q false h1)
        (nilP p0 fun (a1 : Addr) =>
          loadP cC (a1.add (0 : Nat)) h1 fun (p1_1 : Option Nat) =>
            callP Tryz.prog (78 : Nat) [Value.slice p1.a p1.len p1.cap] cSl h1 fun (s1 : Sl) (h2 : Hp) => sendP p1_1 (Value.slice s1.a s1.len s1.cap) h2 (Q false h2) fun (h3 : Hp) => Q true h3))
    fun (J1 : Bool → Hp → Prop) => condP p0.isNone (J1 true h) (nilP p0 fun (a2 : Addr) => loadP cB { block := a2.block, off := a2.off + (1 : Nat) : Addr } h fun (t2 : Bool) => J1 t2 h)
theorem e55 (p0 : Option Addr) (p1 : Sl) (h : Hp) (Q : Bool → Hp → Prop) : fnD a55 Tryz.prog 55 n55 (cB) [Value.pointer p0, Value.slice p1.a p1.len p1.cap] h Q = F55 p0 p1 h Q := by kernel_rfl
theorem c55 {p0 : Option Addr} {p1 : Sl} {h : Hp} {Q : Bool → Hp → Prop} (hk : F55 p0 p1 h Q) : callP Tryz.prog 55 [Value.pointer p0, Value.slice p1.a p1.len p1.cap] (cB) h Q :=
  spec_of (prem_of prog_ok dep_ok eqs_ok rfl (by kernel_rfl)) mix_ok ((e55 p0 p1 h Q).mpr hk)
def a37 : Ann := { prom := 0, refs := [], dyn := 0, bcd := fun s => match s with | _ => none, eqs := memL eqL, cdc := cdcs, res := ress, pure := memL [49], pan := memL [48, 81] }
def n37 : An := (.seq (.reg []) (.seq (.seq (.reg []) (.cond (.seq (.reg []) .leaf) .leaf)) (.seq (.reg []) (.seq (.reg []) (.block (.cond (.seq (.reg []) (.seq (.reg []) .leaf)) (.seq (.reg []) .leaf)))))))
/-- (*consols/mail.Box).Take -/
def F37 (p0 : Option Addr) (h : Hp) (Q : Sl × Bool → Hp → Prop) : Prop :=
  condP p0.isNone (Q ({ a := none, len := (0 : Nat), cap := (0 : Nat) : Sl }, false) h)
    (nilP p0 fun (a1 : Addr) => loadP cC (a1.add (0 : Nat)) h fun (p1 : Option Nat) => recvP cSl p1 h (Q ({ a := none, len := (0 : Nat), cap := (0 : Nat) : Sl }, false) h) fun (s1 : Sl) (h1 : Hp) => Q (s1, true) h1)
theorem e37 (p0 : Option Addr) (h : Hp) (Q : Sl × Bool → Hp → Prop) : fnD a37 Tryz.prog 37 n37 (tupC [cSl, cB]) [Value.pointer p0] h Q = F37 p0 h Q := by kernel_rfl
theorem c37 {p0 : Option Addr} {h : Hp} {Q : Sl × Bool → Hp → Prop} (hk : F37 p0 h Q) : callP Tryz.prog 37 [Value.pointer p0] (tupC [cSl, cB]) h Q :=
  spec_of (prem_of prog_ok dep_ok eqs_ok rfl (by kernel_rfl)) mix_ok ((e37 p0 h Q).mpr hk)
def a44 : Ann := { prom := 0, refs := [], dyn := 0, bcd := fun s => match s with | _ => none, eqs := memL eqL, cdc := cdcs, res := ress, pure := memL [49], pan := memL [48, 81] }
def n44 : An := (.seq (.reg []) (.seq (.reg []) .leaf))
/-- consols/keep.New -/
def F44  (h : Hp) (Q : Option Addr → Hp → Prop) : Prop :=
  allocP (Obj.cells { toList := [Value.slice none (0 : Nat) (0 : Nat), Value.int IntKind.i64 (1 : Int)] : Array Value } (123 : Nat)) h fun (k1 : Nat) (h1 : Hp) => Q (some { block := k1, off := (0 : Nat) : Addr }) h1
theorem e44  (h : Hp) (Q : Option Addr → Hp → Prop) : fnD a44 Tryz.prog 44 n44 (cP) [] h Q = F44  h Q := by kernel_rfl
theorem c44  {h : Hp} {Q : Option Addr → Hp → Prop} (hk : F44  h Q) : callP Tryz.prog 44 [] (cP) h Q :=
  spec_of (prem_of prog_ok dep_ok eqs_ok rfl (by kernel_rfl)) mix_ok ((e44  h Q).mpr hk)
def a67 : Ann := { prom := 56, refs := [], dyn := 0, bcd := fun s => match s with | 3 => some (cMsg) | 4 => some (cFrame) | 5 => some (cFrame) | _ => none, eqs := memL eqL, cdc := cdcs, res := ress, pure := memL [49], pan := memL [48, 81] }
def n67 : An := (.seq (.reg []) (.seq (.seq (.reg []) (.cond (.seq (.reg []) .leaf) .leaf)) (.seq (.reg [(0, []), (1, []), (2, []), (4, []), (6, []), (3, []), (5, []), (7, [])]) (.seq (.reg []) (.seq (.reg [(0, []), (1, []), (2, []), (3, []), (5, []), (4, []), (6, []), (7, []), (8, []), (9, []), (10, [])]) (.join [] 70364449210368 (.seq (.reg []) (.cond (.reg []) .leaf)) (.seq (.reg []) .leaf)))))))
/-- (*consols/keep.Keep).Add -/
def F67 (p0 : Option Addr) (p1 : Msg) (h : Hp) (Q : Frame → Hp → Prop) : Prop :=
  condP p0.isNone (Q { Seq := (0 : Int), Msg_Kind := (0 : Int), Msg_F_0 := (0 : Int), Msg_F_1 := (0 : Int), Msg_F_2 := (0 : Int), Msg_F_3 := (0 : Int), Msg_F_4 := (0 : Int), Msg_F_5 := (0 : Int) : Frame } h)
    (nilP p0 fun (a1 : Addr) =>
      loadP (cI IntKind.i64) { block := a1.block, off := a1.off + (1 : Nat) : Addr } h fun (n1 : Int) =>
        nilP p0 fun (a2 : Addr) =>
          loadP (cI IntKind.i64) { block := a2.block, off := a2.off + (1 : Nat) : Addr } h fun (n2 : Int) =>
            nilP p0 fun (a3 : Addr) =>
              storeP (cI IntKind.i64) { block := a3.block, off := a3.off + (1 : Nat) : Addr } (IntKind.i64.wrap (n2 + (1 : Int))) h fun (h1 : Hp) =>
                nilP p0 fun (a4 : Addr) =>
                  loadP cSl (a4.add (0 : Nat)) h1 fun (s1 : Sl) =>
                    allocP
                      (Obj.cells
                        {
                          toList :=
                            [Value.int IntKind.i64 n1, Value.int IntKind.i64 p1.Kind, Value.int IntKind.i64 p1.F_0, Value.int IntKind.i64 p1.F_1, Value.int IntKind.i64 p1.F_2, Value.int IntKind.i64 p1.F_3, Value.int IntKind.i64 p1.F_4,
                              Value.int IntKind.i64 p1.F_5] :
                          Array Value }
                        (65 : Nat))
                      h1 fun (k1 : Nat) (h2 : Hp) =>
                      appendP cFrame (65 : Nat) (64 : Nat) s1.a s1.len s1.cap (some { block := k1, off := (0 : Nat) : Addr }) (1 : Nat) h2 fun (p1_1 : Option Addr) (k2 k3 : Nat) (h3 : Hp) =>
                        nilP p0 fun (a5 : Addr) =>
                          storeP cSl (a5.add (0 : Nat)) { a := p1_1, len := k2, cap := k3 : Sl } h3 fun (h4 : Hp) =>
                            joinP (fun (u1 : PUnit) (h5 : Hp) => Q { Seq := n1, Msg_Kind := p1.Kind, Msg_F_0 := p1.F_0, Msg_F_1 := p1.F_1, Msg_F_2 := p1.F_2, Msg_F_3 := p1.F_3, Msg_F_4 := p1.F_4, Msg_F_5 := p1.F_5 : Frame } h5)
                              fun (J1 : PUnit → Hp → Prop) =>
                              nilP p0 fun (a6 : Addr) =>
                                loadP cSl (a6.add (0 : Nat)) h4 fun (s2 : Sl) =>
                                  condP (decide ((↑s2.len : Int) > (64 : Int)))
                                    (nilP p0 fun (a7 : Addr) =>
                                      loadP cSl (a7.add (0 : Nat)) h4 fun (s3 : Sl) =>
                                        callP Tryz.prog (90 : Nat) [Value.slice s3.a s3.len s3.cap, Value.int IntKind.i64 (0 : Int), Value.int IntKind.i64 (1 : Int)] cSl h4 fun (s4 : Sl) (h6 : Hp) =>
                                          nilP p0 fun (a8 : Addr) => storeP cSl (a8.add (0 : Nat)) s4 h6 fun (h7 : Hp) => J1 PUnit.unit h7)
                                    (J1 PUnit.unit h4))
theorem e67 (p0 : Option Addr) (p1 : Msg) (h : Hp) (Q : Frame → Hp → Prop) : fnD a67 Tryz.prog 67 n67 (cFrame) [Value.pointer p0, cMsg.enc p1] h Q = F67 p0 p1 h Q := by kernel_rfl
theorem c67 {p0 : Option Addr} {p1 : Msg} {h : Hp} {Q : Frame → Hp → Prop} (hk : F67 p0 p1 h Q) : callP Tryz.prog 67 [Value.pointer p0, cMsg.enc p1] (cFrame) h Q :=
  spec_of (prem_of prog_ok dep_ok eqs_ok rfl (by kernel_rfl)) mix_ok ((e67 p0 p1 h Q).mpr hk)
def a70 : Ann := { prom := 56, refs := [], dyn := 0, bcd := fun s => match s with | 3 => some (cMsg) | 4 => some (cFrame) | 5 => some (cFrame) | _ => none, eqs := memL eqL, cdc := cdcs, res := ress, pure := memL [49], pan := memL [48, 81] }
def n70 : An := (.seq (.reg []) (.seq (.reg [(0, []), (2, []), (4, []), (1, []), (3, []), (5, [])]) (.seq (.reg [(0, []), (1, []), (2, []), (3, []), (5, []), (4, []), (6, []), (7, []), (8, []), (9, []), (10, [])]) (.seq (.reg []) .leaf))))
/-- (*consols/consolsref9.Keep).Add -/
def F70 (p0 : Option Addr) (p1 : Msg) (h : Hp) (Q : Frame → Hp → Prop) : Prop :=
  callP Tryz.prog (91 : Nat) [Value.pointer p0] (cI IntKind.i64) h fun (n1 : Int) (h1 : Hp) =>
    nilP p0 fun (a1 : Addr) =>
      loadP cSl (a1.add (0 : Nat)) h1 fun (s1 : Sl) =>
        allocP
          (Obj.cells
            {
              toList :=
                [Value.int IntKind.i64 n1, Value.int IntKind.i64 p1.Kind, Value.int IntKind.i64 p1.F_0, Value.int IntKind.i64 p1.F_1, Value.int IntKind.i64 p1.F_2, Value.int IntKind.i64 p1.F_3, Value.int IntKind.i64 p1.F_4,
                  Value.int IntKind.i64 p1.F_5] :
              Array Value }
            (65 : Nat))
          h1 fun (k1 : Nat) (h2 : Hp) =>
          appendP cFrame (65 : Nat) (64 : Nat) s1.a s1.len s1.cap (some { block := k1, off := (0 : Nat) : Addr }) (1 : Nat) h2 fun (p1_1 : Option Addr) (k2 k3 : Nat) (h3 : Hp) =>
            nilP p0 fun (a2 : Addr) =>
              storeP cSl (a2.add (0 : Nat)) { a := p1_1, len := k2, cap := k3 : Sl } h3 fun (h4 : Hp) =>
                Q { Seq := n1, Msg_Kind := p1.Kind, Msg_F_0 := p1.F_0, Msg_F_1 := p1.F_1, Msg_F_2 := p1.F_2, Msg_F_3 := p1.F_3, Msg_F_4 := p1.F_4, Msg_F_5 := p1.F_5 : Frame } h4
theorem e70 (p0 : Option Addr) (p1 : Msg) (h : Hp) (Q : Frame → Hp → Prop) : fnD a70 Tryz.prog 70 n70 (cFrame) [Value.pointer p0, cMsg.enc p1] h Q = F70 p0 p1 h Q := by kernel_rfl
theorem c70 {p0 : Option Addr} {p1 : Msg} {h : Hp} {Q : Frame → Hp → Prop} (hk : F70 p0 p1 h Q) : callP Tryz.prog 70 [Value.pointer p0, cMsg.enc p1] (cFrame) h Q :=
  spec_of (prem_of prog_ok dep_ok eqs_ok rfl (by kernel_rfl)) mix_ok ((e70 p0 p1 h Q).mpr hk)
def a82 : Ann := { prom := 0, refs := [], dyn := 0, bcd := fun s => match s with | _ => none, eqs := memL eqL, cdc := cdcs, res := ress, pure := memL [49], pan := memL [48, 81] }
def n82 : An := (.seq (.reg []) (.seq (.join [(33, false, cB)] 17179869120 (.reg [(0, []), (1, []), (2, []), (3, []), (4, []), (5, []), (6, []), (7, []), (8, []), (9, []), (10, []), (11, []), (12, []), (13, []), (14, []), (15, []), (16, []), (17, []), (19, []), (21, []), (22, []), (23, []), (18, []), (20, []), (24, []), (25, []), (26, []), (27, [])]) (.cond (.seq (.reg []) .leaf) .leaf)) (.seq (.reg [(0, []), (1, []), (2, []), (4, []), (5, []), (6, []), (9, []), (10, []), (11, []), (13, []), (3, []), (7, []), (8, []), (12, []), (14, []), (15, []), (16, []), (17, []), (18, []), (19, [])]) .leaf)))
/-- (*consols/keep.Keep).From -/
def F82 (p0 : Option Addr) (p1 : Int) (h : Hp) (Q : Sl × Bool → Hp → Prop) : Prop :=
  joinP
    (fun (t1 : Bool) (h1 : Hp) =>
      condP t1 (Q ({ a := none, len := (0 : Nat), cap := (0 : Nat) : Sl }, false) h1)
        (nilP p0 fun (a1 : Addr) =>
          nilP p0 fun (a2 : Addr) =>
            nilP p0 fun (a3 : Addr) =>
              loadP cSl (a1.add (0 : Nat)) h1 fun (s1 : Sl) =>
                loadP cSl (a2.add (0 : Nat)) h1 fun (s2 : Sl) =>
                  loadP (cI IntKind.i64) { block := a3.block, off := a3.off + (1 : Nat) : Addr } h1 fun (n1 : Int) =>
                    cutP s1.len s1.cap (some (IntKind.i64.wrap ((↑s2.len : Int) - IntKind.i64.wrap (n1 - p1)))) none fun (k1 k2 : Nat) =>
                      callP Tryz.prog (96 : Nat) [Value.slice (cutA s1.a k1 s1.cap (8 : Nat)) (k2 - k1) (s1.cap - k1)] cSl h1 fun (s3 : Sl) (h2 : Hp) => Q (s3, true) h2))
    fun (J1 : Bool → Hp → Prop) =>
    condP p0.isNone (J1 true h)
      (condP (decide (p1 < (1 : Int))) (J1 true h)
        (nilP p0 fun (a4 : Addr) =>
          loadP (cI IntKind.i64) { block := a4.block, off := a4.off + (1 : Nat) : Addr } h fun (n2 : Int) =>
            condP (decide (p1 > n2)) (J1 true h)
              (nilP p0 fun (a5 : Addr) =>
                nilP p0 fun (a6 : Addr) =>
                  loadP (cI IntKind.i64) { block := a5.block, off := a5.off + (1 : Nat) : Addr } h fun (n3 : Int) => loadP cSl (a6.add (0 : Nat)) h fun (s4 : Sl) => J1 (decide (IntKind.i64.wrap (n3 - p1) > (↑s4.len : Int))) h)))
theorem e82 (p0 : Option Addr) (p1 : Int) (h : Hp) (Q : Sl × Bool → Hp → Prop) : fnD a82 Tryz.prog 82 n82 (tupC [cSl, cB]) [Value.pointer p0, Value.int IntKind.i64 p1] h Q = F82 p0 p1 h Q := by kernel_rfl
theorem c82 {p0 : Option Addr} {p1 : Int} {h : Hp} {Q : Sl × Bool → Hp → Prop} (hk : F82 p0 p1 h Q) : callP Tryz.prog 82 [Value.pointer p0, Value.int IntKind.i64 p1] (tupC [cSl, cB]) h Q :=
  spec_of (prem_of prog_ok dep_ok eqs_ok rfl (by kernel_rfl)) mix_ok ((e82 p0 p1 h Q).mpr hk)
def a89 : Ann := { prom := 0, refs := [], dyn := 0, bcd := fun s => match s with | _ => none, eqs := memL eqL, cdc := cdcs, res := ress, pure := memL [49], pan := memL [48, 81] }
def n89 : An := (.seq (.reg []) (.seq (.reg []) (.seq (.join [(26, false, cB)] 134213632 (.reg []) (.cond (.seq (.reg []) .leaf) .leaf)) (.seq (.reg []) .leaf))))
/-- (*consols/consolsref9.Keep).From -/
def F89 (p0 : Option Addr) (p1 : Int) (h : Hp) (Q : Sl × Bool → Hp → Prop) : Prop :=
  nilP p0 fun (a1 : Addr) =>
    loadP cSl (a1.add (0 : Nat)) h fun (s1 : Sl) =>
      joinP
        (fun (t1 : Bool) (h1 : Hp) =>
          condP t1 (Q ({ a := none, len := (0 : Nat), cap := (0 : Nat) : Sl }, false) h1)
            (allocP (Obj.cells { toList := [] : Array Value } (65 : Nat)) h1 fun (k1 : Nat) (h2 : Hp) =>
              nilP p0 fun (a2 : Addr) =>
                loadP cSl (a2.add (0 : Nat)) h2 fun (s2 : Sl) =>
                  cutP s2.len s2.cap (some (IntKind.i64.wrap (p1 - (1 : Int)))) none fun (k2 k3 : Nat) =>
                    appendP cFrame (65 : Nat) (64 : Nat) (some { block := k1, off := (0 : Nat) : Addr }) (0 : Nat) (0 : Nat) (cutA s2.a k2 s2.cap (8 : Nat)) (k3 - k2) h2 fun (p1 : Option Addr) (k4 k5 : Nat) (h3 : Hp) =>
                      Q ({ a := p1, len := k4, cap := k5 : Sl }, true) h3))
        fun (J1 : Bool → Hp → Prop) =>
        condP (decide (p1 < (1 : Int))) (J1 true h) (condP (decide (p1 > IntKind.i64.wrap ((↑s1.len : Int) + (1 : Int)))) (J1 true h) (J1 (decide (p1 < IntKind.i64.wrap (IntKind.i64.wrap ((↑s1.len : Int) + (1 : Int)) - (64 : Int)))) h))
theorem e89 (p0 : Option Addr) (p1 : Int) (h : Hp) (Q : Sl × Bool → Hp → Prop) : fnD a89 Tryz.prog 89 n89 (tupC [cSl, cB]) [Value.pointer p0, Value.int IntKind.i64 p1] h Q = F89 p0 p1 h Q := by kernel_rfl
theorem c89 {p0 : Option Addr} {p1 : Int} {h : Hp} {Q : Sl × Bool → Hp → Prop} (hk : F89 p0 p1 h Q) : callP Tryz.prog 89 [Value.pointer p0, Value.int IntKind.i64 p1] (tupC [cSl, cB]) h Q :=
  spec_of (prem_of prog_ok dep_ok eqs_ok rfl (by kernel_rfl)) mix_ok ((e89 p0 p1 h Q).mpr hk)
def a8 : Ann := { prom := 0, refs := [], dyn := 0, bcd := fun s => match s with | _ => none, eqs := memL eqL, cdc := cdcs, res := ress, pure := memL [49], pan := memL [48, 81] }
def n8 : An := (.seq (.reg []) (.seq (.seq (.reg []) (.cond (.seq (.reg []) .leaf) .leaf)) (.seq (.seq (.reg []) (.block (.loop [(5, false, cI .i64)] 67106864 (.seq (.seq (.reg []) (.cond .leaf .leaf)) (.seq (.block (.seq (.reg [(0, []), (1, []), (2, []), (4, []), (5, []), (6, []), (3, []), (7, []), (8, [])]) (.cond (.seq (.reg []) .leaf) .leaf))) (.reg [])))))) (.seq (.reg []) .leaf))))
/-- consols/consolsref5.Same -/
def F8 (p0 : Sl) (p1 : Sl) (h : Hp) (Q : Bool → Hp → Prop) : Prop :=
  condP ((↑p0.len : Int) != (↑p1.len : Int)) (Q false h)
    (loopP (0 : Int) h fun (J1 : Int → Hp → Prop) (n1 : Int) (h1 : Hp) =>
      condP (decide (n1 < (↑p0.len : Int)))
        (idxP p0.a p0.len n1 fun (a1 : Addr) =>
          idxP p1.a p1.len n1 fun (a2 : Addr) =>
            loadP cFrame (a1.add (n1.toNat * (8 : Nat))) h1 fun (x1 : Frame) =>
              loadP cFrame (a2.add (n1.toNat * (8 : Nat))) h1 fun (x2 : Frame) =>
                condP
                  (!(x1.Seq == x2.Seq &&
                      (x1.Msg_Kind == x2.Msg_Kind && (x1.Msg_F_0 == x2.Msg_F_0 && (x1.Msg_F_1 == x2.Msg_F_1 && (x1.Msg_F_2 == x2.Msg_F_2 && (x1.Msg_F_3 == x2.Msg_F_3 && (x1.Msg_F_4 == x2.Msg_F_4 && (x1.Msg_F_5 == x2.Msg_F_5 && true)))))))))
                  (Q false h1) (J1 (IntKind.i64.wrap (n1 + (1 : Int))) h1))
        (Q true h1))
theorem e8 (p0 : Sl) (p1 : Sl) (h : Hp) (Q : Bool → Hp → Prop) : fnD a8 Tryz.prog 8 n8 (cB) [Value.slice p0.a p0.len p0.cap, Value.slice p1.a p1.len p1.cap] h Q = F8 p0 p1 h Q := by kernel_rfl
theorem c8 {p0 : Sl} {p1 : Sl} {h : Hp} {Q : Bool → Hp → Prop} (hk : F8 p0 p1 h Q) : callP Tryz.prog 8 [Value.slice p0.a p0.len p0.cap, Value.slice p1.a p1.len p1.cap] (cB) h Q :=
  spec_of (prem_of prog_ok dep_ok eqs_ok rfl (by kernel_rfl)) mix_ok ((e8 p0 p1 h Q).mpr hk)
def a91 : Ann := { prom := 0, refs := [], dyn := 0, bcd := fun s => match s with | _ => none, eqs := memL eqL, cdc := cdcs, res := ress, pure := memL [49], pan := memL [48, 81] }
def n91 : An := (.seq (.reg []) (.seq (.reg []) .leaf))
/-- (*consols/consolsref9.Keep).Next -/
def F91 (p0 : Option Addr) (h : Hp) (Q : Int → Hp → Prop) : Prop :=
 nilP p0 fun (a1 : Addr) => loadP cSl (a1.add (0 : Nat)) h fun (s1 : Sl) => Q (IntKind.i64.wrap ((↑s1.len : Int) + (1 : Int))) h
theorem e91 (p0 : Option Addr) (h : Hp) (Q : Int → Hp → Prop) : fnD a91 Tryz.prog 91 n91 (cI .i64) [Value.pointer p0] h Q = F91 p0 h Q := by kernel_rfl
theorem c91 {p0 : Option Addr} {h : Hp} {Q : Int → Hp → Prop} (hk : F91 p0 h Q) : callP Tryz.prog 91 [Value.pointer p0] (cI .i64) h Q :=
  spec_of (prem_of prog_ok dep_ok eqs_ok rfl (by kernel_rfl)) mix_ok ((e91 p0 h Q).mpr hk)
def a24 : Ann := { prom := 0, refs := [], dyn := 0, bcd := fun s => match s with | _ => none, eqs := memL eqL, cdc := cdcs, res := ress, pure := memL [49], pan := memL [48, 81] }
def n24 : An := (.seq (.reg []) (.seq (.join [(8, false, cB)] 504 (.reg []) (.cond (.seq (.reg []) .leaf) .leaf)) (.seq (.reg []) .leaf)))
/-- consols/consolsref8.New -/
def F24 (p0 : Int) (h : Hp) (Q : Option Addr → Hp → Prop) : Prop :=
  joinP
    (fun (t1 : Bool) (h1 : Hp) =>
      condP t1 (Q none h1)
        (allocP (Obj.cells { toList := [Value.slice none (0 : Nat) (0 : Nat), Value.int IntKind.i64 p0, Value.bool false] : Array Value } (95 : Nat)) h1 fun (k1 : Nat) (h2 : Hp) => Q (some { block := k1, off := (0 : Nat) : Addr }) h2))
    fun (J1 : Bool → Hp → Prop) => condP (decide (p0 < (1 : Int))) (J1 true h) (J1 (decide (p0 > (256 : Int))) h)
theorem e24 (p0 : Int) (h : Hp) (Q : Option Addr → Hp → Prop) : fnD a24 Tryz.prog 24 n24 (cP) [Value.int IntKind.i64 p0] h Q = F24 p0 h Q := by kernel_rfl
theorem c24 {p0 : Int} {h : Hp} {Q : Option Addr → Hp → Prop} (hk : F24 p0 h Q) : callP Tryz.prog 24 [Value.int IntKind.i64 p0] (cP) h Q :=
  spec_of (prem_of prog_ok dep_ok eqs_ok rfl (by kernel_rfl)) mix_ok ((e24 p0 h Q).mpr hk)
def a73 : Ann := { prom := 0, refs := [], dyn := 0, bcd := fun s => match s with | _ => none, eqs := memL eqL, cdc := cdcs, res := ress, pure := memL [49], pan := memL [48, 81] }
def n73 : An := (.seq (.reg []) (.seq (.join [(20, false, cB)] 2097120 (.reg [(0, []), (1, []), (2, []), (3, []), (4, []), (5, []), (6, []), (7, []), (10, []), (11, []), (12, []), (8, []), (9, []), (13, []), (14, []), (15, [])]) (.cond (.seq (.reg []) .leaf) .leaf)) (.seq (.reg [(0, []), (1, []), (2, []), (3, []), (6, []), (4, []), (5, []), (7, [4]), (8, []), (9, []), (10, []), (11, []), (12, [])]) (.seq (.reg []) .leaf))))
/-- (*consols/consolsref8.Box).Put -/
def F73 (p0 : Option Addr) (p1 : Sl) (h : Hp) (Q : Bool → Hp → Prop) : Prop :=
  joinP
    (fun (t1 : Bool) (h1 : Hp) =>
      condP t1 (Q false h1)
        (nilP p0 fun (a1 : Addr) =>
          loadP cSl (a1.add (0 : Nat)) h1 fun (s1 : Sl) =>
            allocP (Obj.cells { toList := [] : Array Value } (5 : Nat)) h1 fun (k1 : Nat) (h2 : Hp) =>
              appendP (cI IntKind.u8) (5 : Nat) (1 : Nat) (some { block := k1, off := (0 : Nat) : Addr }) (0 : Nat) (0 : Nat) p1.a p1.len h2 fun (p1 : Option Addr) (k2 k3 : Nat) (h3 : Hp) =>
                (h3.rds (a1.add (0 : Nat)) [Value.slice s1.a s1.len s1.cap] ∧ True) ∧
                  allocP (Obj.cells { toList := [Value.slice p1 k2 k3] : Array Value } (27 : Nat)) h3 fun (k4 : Nat) (h4 : Hp) =>
                    appendP cSl (27 : Nat) (24 : Nat) s1.a s1.len s1.cap (some { block := k4, off := (0 : Nat) : Addr }) (1 : Nat) h4 fun (p2 : Option Addr) (k5 k6 : Nat) (h5 : Hp) =>
                      nilP p0 fun (a2 : Addr) => storeP cSl (a2.add (0 : Nat)) { a := p2, len := k5, cap := k6 : Sl } h5 fun (h6 : Hp) => Q true h6))
    fun (J1 : Bool → Hp → Prop) =>
    nilP p0 fun (a3 : Addr) =>
      loadP cB { block := a3.block, off := a3.off + (2 : Nat) : Addr } h fun (t2 : Bool) =>
        condP t2 (J1 true h)
          (nilP p0 fun (a4 : Addr) =>
            nilP p0 fun (a5 : Addr) => loadP cSl (a4.add (0 : Nat)) h fun (s2 : Sl) => loadP (cI IntKind.i64) { block := a5.block, off := a5.off + (1 : Nat) : Addr } h fun (n1 : Int) => J1 (decide ((↑s2.len : Int) ≥ n1)) h)
theorem e73 (p0 : Option Addr) (p1 : Sl) (h : Hp) (Q : Bool → Hp → Prop) : fnD a73 Tryz.prog 73 n73 (cB) [Value.pointer p0, Value.slice p1.a p1.len p1.cap] h Q = F73 p0 p1 h Q := by kernel_rfl
theorem c73 {p0 : Option Addr} {p1 : Sl} {h : Hp} {Q : Bool → Hp → Prop} (hk : F73 p0 p1 h Q) : callP Tryz.prog 73 [Value.pointer p0, Value.slice p1.a p1.len p1.cap] (cB) h Q :=
  spec_of (prem_of prog_ok dep_ok eqs_ok rfl (by kernel_rfl)) mix_ok ((e73 p0 p1 h Q).mpr hk)
def a38 : Ann := { prom := 0, refs := [], dyn := 0, bcd := fun s => match s with | _ => none, eqs := memL eqL, cdc := cdcs, res := ress, pure := memL [49], pan := memL [48, 81] }
def n38 : An := (.seq (.reg []) (.seq (.seq (.reg []) (.cond (.seq (.reg []) .leaf) .leaf)) (.seq (.reg []) (.seq (.reg []) (.seq (.reg []) .leaf)))))
/-- (*consols/consolsref8.Box).Take -/
def F38 (p0 : Option Addr) (h : Hp) (Q : Sl × Bool → Hp → Prop) : Prop :=
  nilP p0 fun (a1 : Addr) =>
    loadP cSl (a1.add (0 : Nat)) h fun (s1 : Sl) =>
      condP ((↑s1.len : Int) == (0 : Int)) (Q ({ a := none, len := (0 : Nat), cap := (0 : Nat) : Sl }, false) h)
        (nilP p0 fun (a2 : Addr) =>
          loadP cSl (a2.add (0 : Nat)) h fun (s2 : Sl) =>
            idxP s2.a s2.len (0 : Int) fun (a3 : Addr) =>
              loadP cSl (a3.add (0 : Nat)) h fun (s3 : Sl) =>
                nilP p0 fun (a4 : Addr) =>
                  loadP cSl (a4.add (0 : Nat)) h fun (s4 : Sl) =>
                    cutP s4.len s4.cap (some (1 : Int)) none fun (k1 k2 : Nat) =>
                      nilP p0 fun (a5 : Addr) => storeP cSl (a5.add (0 : Nat)) { a := cutA s4.a k1 s4.cap (1 : Nat), len := k2 - k1, cap := s4.cap - k1 : Sl } h fun (h1 : Hp) => Q (s3, true) h1)
theorem e38 (p0 : Option Addr) (h : Hp) (Q : Sl × Bool → Hp → Prop) : fnD a38 Tryz.prog 38 n38 (tupC [cSl, cB]) [Value.pointer p0] h Q = F38 p0 h Q := by kernel_rfl
theorem c38 {p0 : Option Addr} {h : Hp} {Q : Sl × Bool → Hp → Prop} (hk : F38 p0 h Q) : callP Tryz.prog 38 [Value.pointer p0] (tupC [cSl, cB]) h Q :=
  spec_of (prem_of prog_ok dep_ok eqs_ok rfl (by kernel_rfl)) mix_ok ((e38 p0 h Q).mpr hk)
def a86 : Ann := { prom := 0, refs := [], dyn := 0, bcd := fun s => match s with | _ => none, eqs := memL eqL, cdc := cdcs, res := ress, pure := memL [49], pan := memL [48, 81] }
def n86 : An := (.seq (.reg []) (.seq (.reg []) (.seq (.seq (.reg []) (.block (.loop [(3, false, cSl), (9, false, cI .i64)] 2147483240 (.seq (.reg []) (.seq (.cond .leaf .leaf) (.seq (.block (.seq (.reg []) (.seq (.reg []) (.seq (.block (.loop [(3, false, cSl), (6, false, cI .u64)] 33521736 (.seq (.seq (.reg []) (.cond .leaf .leaf)) (.block (.seq (.reg []) (.reg [])))))) (.reg []))))) (.reg []))))))) (.seq (.reg []) .leaf))))
/-- consols/pack.Put -/
def F86 (p0 : Sl) (h : Hp) (Q : Sl → Hp → Prop) : Prop :=
  loopP ({ a := none, len := (0 : Nat), cap := (0 : Nat) : Sl }, (0 : Int)) h fun (J1 : Sl × Int → Hp → Prop) (z1 : Sl × Int) (h1 : Hp) =>
    condP (decide (z1.snd < (↑p0.len : Int)))
      (idxP p0.a p0.len z1.snd fun (a1 : Addr) =>
        loadP (cI IntKind.i64) (a1.add (z1.snd.toNat * (1 : Nat))) h1 fun (n1 : Int) =>
          callP Tryz.prog (98 : Nat) [Value.int IntKind.i64 n1] (cI IntKind.u64) h1 fun (n2 : Int) (h2 : Hp) =>
            loopP (z1.fst, n2) h2 fun (J2 : Sl × Int → Hp → Prop) (z2 : Sl × Int) (h3 : Hp) =>
              condP (decide (z2.snd ≥ (128 : Int)))
                (allocP (Obj.cells { toList := [Value.int IntKind.u8 (orI IntKind.u8 (IntKind.u8.wrap z2.snd) (128 : Int))] : Array Value } (5 : Nat)) h3 fun (k1 : Nat) (h4 : Hp) =>
                  appendP (cI IntKind.u8) (5 : Nat) (1 : Nat) z2.fst.a z2.fst.len z2.fst.cap (some { block := k1, off := (0 : Nat) : Addr }) (1 : Nat) h4 fun (p1 : Option Addr) (k2 k3 : Nat) (h5 : Hp) =>
                    (0 : Int) ≤ (7 : Int) ∧ J2 ({ a := p1, len := k2, cap := k3 : Sl }, shrI IntKind.u64 z2.snd (7 : Int)) h5)
                (allocP (Obj.cells { toList := [Value.int IntKind.u8 (IntKind.u8.wrap z2.snd)] : Array Value } (5 : Nat)) h3 fun (k4 : Nat) (h6 : Hp) =>
                  appendP (cI IntKind.u8) (5 : Nat) (1 : Nat) z2.fst.a z2.fst.len z2.fst.cap (some { block := k4, off := (0 : Nat) : Addr }) (1 : Nat) h6 fun (p2 : Option Addr) (k5 k6 : Nat) (h7 : Hp) =>
                    J1 ({ a := p2, len := k5, cap := k6 : Sl }, IntKind.i64.wrap (z1.snd + (1 : Int))) h7))
      (Q z1.fst h1)
theorem e86 (p0 : Sl) (h : Hp) (Q : Sl → Hp → Prop) : fnD a86 Tryz.prog 86 n86 (cSl) [Value.slice p0.a p0.len p0.cap] h Q = F86 p0 h Q := by kernel_rfl
theorem c86 {p0 : Sl} {h : Hp} {Q : Sl → Hp → Prop} (hk : F86 p0 h Q) : callP Tryz.prog 86 [Value.slice p0.a p0.len p0.cap] (cSl) h Q :=
  spec_of (prem_of prog_ok dep_ok eqs_ok rfl (by kernel_rfl)) mix_ok ((e86 p0 h Q).mpr hk)
def a50 : Ann := { prom := 0, refs := [], dyn := 0, bcd := fun s => match s with | _ => none, eqs := memL eqL, cdc := cdcs, res := ress, pure := memL [49], pan := memL [48, 81] }
def n50 : An := (.join [] 7680 (.seq (.reg []) (.cond .regX .leaf)) (.seq (.block (.loop [(0, false, cSl)] 134209729 (.seq (.seq (.reg []) (.cond .leaf .leaf)) (.block (.seq .regX (.reg [])))))) (.join [] 4160749568 (.seq (.reg []) (.cond .regX .leaf)) (.seq (.reg []) .leaf))))
/-- consols/pack.Get -/
def F50 (p0 : Sl) (p1 : Int) (h : Hp) (Q : Sl × Int → Hp → Prop) : Prop :=
  allocP (Obj.cells { toList := [Value.slice none (0 : Nat) (0 : Nat)] : Array Value } (105 : Nat)) h fun (k1 : Nat) (h1 : Hp) =>
    allocP (Obj.cells { toList := [Value.int IntKind.i64 (0 : Int)] : Array Value } (66 : Nat)) h1 fun (k2 : Nat) (h2 : Hp) =>
      joinP
        (fun (u1 : PUnit) (h3 : Hp) =>
          loopP p0 h3 fun (J1 : Sl → Hp → Prop) (s1 : Sl) (h4 : Hp) =>
            loadP cSl { block := k1, off := (0 : Nat) : Addr } h4 fun (s2 : Sl) =>
              condP (decide ((↑s2.len : Int) < p1))
                (callXP Tryz.prog (81 : Nat) [Value.slice s1.a s1.len s1.cap] (tupC [cI IntKind.i64, cSl]) h4
                  (fun (z1 : Int × Sl) (h5 : Hp) =>
                    loadP cSl { block := k1, off := (0 : Nat) : Addr } h5 fun (s3 : Sl) =>
                      allocP (Obj.cells { toList := [Value.int IntKind.i64 z1.fst] : Array Value } (2 : Nat)) h5 fun (k3 : Nat) (h6 : Hp) =>
                        appendP (cI IntKind.i64) (2 : Nat) (8 : Nat) s3.a s3.len s3.cap (some { block := k3, off := (0 : Nat) : Addr }) (1 : Nat) h6 fun (p1 : Option Addr) (k4 k5 : Nat) (h7 : Hp) =>
                          storeP cSl { block := k1, off := (0 : Nat) : Addr } { a := p1, len := k4, cap := k5 : Sl } h7 fun (h8 : Hp) => J1 z1.snd h8)
                  fun (x1 : Value) (h9 : Hp) =>
                  deferP Tryz.prog (80 : Nat) [Value.pointer (some { block := k1, off := (0 : Nat) : Addr }), Value.pointer (some { block := k2, off := (0 : Nat) : Addr })] (some x1) h9 fun (h10 : Hp) =>
                    loadP cSl { block := k1, off := (0 : Nat) : Addr } h10 fun (s4 : Sl) => loadP (cI IntKind.i64) { block := k2, off := (0 : Nat) : Addr } h10 fun (n1 : Int) => Q (s4, n1) h10)
                (joinP
                  (fun (u2 : PUnit) (h11 : Hp) =>
                    loadP cSl { block := k1, off := (0 : Nat) : Addr } h11 fun (s5 : Sl) =>
                      storeP cSl { block := k1, off := (0 : Nat) : Addr } s5 h11 fun (h12 : Hp) =>
                        storeP (cI IntKind.i64) { block := k2, off := (0 : Nat) : Addr } (0 : Int) h12 fun (h13 : Hp) =>
                          deferP Tryz.prog (80 : Nat) [Value.pointer (some { block := k1, off := (0 : Nat) : Addr }), Value.pointer (some { block := k2, off := (0 : Nat) : Addr })] none h13 fun (h14 : Hp) =>
                            loadP cSl { block := k1, off := (0 : Nat) : Addr } h14 fun (s6 : Sl) => loadP (cI IntKind.i64) { block := k2, off := (0 : Nat) : Addr } h14 fun (n2 : Int) => Q (s6, n2) h14)
                  fun (J2 : PUnit → Hp → Prop) =>
                  condP (decide ((↑s1.len : Int) > (0 : Int)))
                    (deferP Tryz.prog (80 : Nat) [Value.pointer (some { block := k1, off := (0 : Nat) : Addr }), Value.pointer (some { block := k2, off := (0 : Nat) : Addr })]
                      (some (Value.iface (129 : Nat) (Value.agg { toList := [] : Array Value }))) h4 fun (h15 : Hp) =>
                      loadP cSl { block := k1, off := (0 : Nat) : Addr } h15 fun (s7 : Sl) => loadP (cI IntKind.i64) { block := k2, off := (0 : Nat) : Addr } h15 fun (n3 : Int) => Q (s7, n3) h15)
                    (J2 PUnit.unit h4)))
        fun (J3 : PUnit → Hp → Prop) =>
        condP (decide (p1 < (0 : Int)))
          (deferP Tryz.prog (80 : Nat) [Value.pointer (some { block := k1, off := (0 : Nat) : Addr }), Value.pointer (some { block := k2, off := (0 : Nat) : Addr })]
            (some (Value.iface (129 : Nat) (Value.agg { toList := [] : Array Value }))) h2 fun (h16 : Hp) =>
            loadP cSl { block := k1, off := (0 : Nat) : Addr } h16 fun (s8 : Sl) => loadP (cI IntKind.i64) { block := k2, off := (0 : Nat) : Addr } h16 fun (n4 : Int) => Q (s8, n4) h16)
          (J3 PUnit.unit h2)
theorem e50 (p0 : Sl) (p1 : Int) (h : Hp) (Q : Sl × Int → Hp → Prop) : fnDD a50 Tryz.prog 50 n50 (tupC [cSl, cI .i64]) [Value.slice p0.a p0.len p0.cap, Value.int IntKind.i64 p1] h Q = F50 p0 p1 h Q := by kernel_rfl
theorem c50 {p0 : Sl} {p1 : Int} {h : Hp} {Q : Sl × Int → Hp → Prop} (hk : F50 p0 p1 h Q) : callP Tryz.prog 50 [Value.slice p0.a p0.len p0.cap, Value.int IntKind.i64 p1] (tupC [cSl, cI .i64]) h Q :=
  specDD_of (prem_of prog_ok dep_ok eqs_ok rfl (by kernel_rfl)) mix_ok ((e50 p0 p1 h Q).mpr hk)
def a93 : Ann := { prom := 0, refs := [], dyn := 0, bcd := fun s => match s with | _ => none, eqs := memL eqL, cdc := cdcs, res := ress, pure := memL [49], pan := memL [48, 81] }
def n93 : An := (.seq (.reg []) (.seq (.reg []) (.seq (.seq (.reg []) (.block (.loop [(3, false, cSl), (4, false, cI .i64)] 524248 (.seq (.seq (.reg []) (.cond .leaf .leaf)) (.seq (.block (.reg [])) (.reg [])))))) (.seq (.reg []) .leaf))))
/-- consols/consolsref3.Put -/
def F93 (p0 : Sl) (h : Hp) (Q : Sl → Hp → Prop) : Prop :=
  allocP (Obj.cells { toList := [] : Array Value } (5 : Nat)) h fun (k1 : Nat) (h1 : Hp) =>
    loopP ({ a := some { block := k1, off := (0 : Nat) : Addr }, len := (0 : Nat), cap := (0 : Nat) : Sl }, (0 : Int)) h1 fun (J1 : Sl × Int → Hp → Prop) (z1 : Sl × Int) (h2 : Hp) =>
      condP (decide (z1.snd < (↑p0.len : Int)))
        (idxP p0.a p0.len z1.snd fun (a1 : Addr) =>
          loadP (cI IntKind.i64) (a1.add (z1.snd.toNat * (1 : Nat))) h2 fun (n1 : Int) =>
            callP Tryz.prog (88 : Nat) [Value.int IntKind.i64 n1] cSl h2 fun (s1 : Sl) (h3 : Hp) =>
              appendP (cI IntKind.u8) (5 : Nat) (1 : Nat) z1.fst.a z1.fst.len z1.fst.cap s1.a s1.len h3 fun (p1 : Option Addr) (k2 k3 : Nat) (h4 : Hp) => J1 ({ a := p1, len := k2, cap := k3 : Sl }, IntKind.i64.wrap (z1.snd + (1 : Int))) h4)
        (Q z1.fst h2)
theorem e93 (p0 : Sl) (h : Hp) (Q : Sl → Hp → Prop) : fnD a93 Tryz.prog 93 n93 (cSl) [Value.slice p0.a p0.len p0.cap] h Q = F93 p0 h Q := by kernel_rfl
theorem c93 {p0 : Sl} {h : Hp} {Q : Sl → Hp → Prop} (hk : F93 p0 h Q) : callP Tryz.prog 93 [Value.slice p0.a p0.len p0.cap] (cSl) h Q :=
  spec_of (prem_of prog_ok dep_ok eqs_ok rfl (by kernel_rfl)) mix_ok ((e93 p0 h Q).mpr hk)
def a59 : Ann := { prom := 0, refs := [], dyn := 0, bcd := fun s => match s with | _ => none, eqs := memL eqL, cdc := cdcs, res := ress, pure := memL [49], pan := memL [48, 81] }
def n59 : An := (.seq (.reg []) (.seq (.reg []) (.seq (.seq (.reg []) (.block (.loop [(0, false, cSl), (6, false, cSl), (7, false, cI .i64)] 2147483633 (.seq (.seq (.reg []) (.cond .leaf .leaf)) (.seq (.block (.seq (.reg []) (.seq (.seq (.reg []) (.cond (.seq (.reg []) .leaf) .leaf)) (.seq (.reg []) (.reg []))))) (.reg [])))))) (.seq (.join [(37, false, cB)] 272730423296 (.reg []) (.cond (.seq (.reg []) .leaf) .leaf)) (.seq (.reg []) .leaf)))))
/-- consols/consolsref3.Get -/
def F59 (p0 : Sl) (p1 : Int) (h : Hp) (Q : Sl × Int → Hp → Prop) : Prop :=
  loopP (p0, { a := none, len := (0 : Nat), cap := (0 : Nat) : Sl }, (0 : Int)) h fun (J1 : Sl × Sl × Int → Hp → Prop) (z1 : Sl × Sl × Int) (h1 : Hp) =>
    condP (decide (z1.snd.snd < p1))
      (callP Tryz.prog (58 : Nat) [Value.slice z1.fst.a z1.fst.len z1.fst.cap] (tupC [cI IntKind.i64, cI IntKind.i64, cB]) h1 fun (z2 : Int × Int × Bool) (h2 : Hp) =>
        condP (!z2.snd.snd) (Q ({ a := none, len := (0 : Nat), cap := (0 : Nat) : Sl }, (2 : Int)) h2)
          (allocP (Obj.cells { toList := [Value.int IntKind.i64 z2.fst] : Array Value } (2 : Nat)) h2 fun (k1 : Nat) (h3 : Hp) =>
            appendP (cI IntKind.i64) (2 : Nat) (8 : Nat) z1.snd.fst.a z1.snd.fst.len z1.snd.fst.cap (some { block := k1, off := (0 : Nat) : Addr }) (1 : Nat) h3 fun (p1 : Option Addr) (k2 k3 : Nat) (h4 : Hp) =>
              cutP z1.fst.len z1.fst.cap (some z2.snd.fst) none fun (k4 k5 : Nat) =>
                J1 ({ a := cutA z1.fst.a k4 z1.fst.cap (1 : Nat), len := k5 - k4, cap := z1.fst.cap - k4 : Sl }, { a := p1, len := k2, cap := k3 : Sl }, IntKind.i64.wrap (z1.snd.snd + (1 : Int))) h4))
      (joinP (fun (t1 : Bool) (h5 : Hp) => condP t1 (Q ({ a := none, len := (0 : Nat), cap := (0 : Nat) : Sl }, (2 : Int)) h5) (Q (z1.snd.fst, (0 : Int)) h5)) fun (J2 : Bool → Hp → Prop) =>
        condP (decide (p1 < (0 : Int))) (J2 true h1) (J2 (decide ((↑z1.fst.len : Int) > (0 : Int))) h1))
theorem e59 (p0 : Sl) (p1 : Int) (h : Hp) (Q : Sl × Int → Hp → Prop) : fnD a59 Tryz.prog 59 n59 (tupC [cSl, cI .i64]) [Value.slice p0.a p0.len p0.cap, Value.int IntKind.i64 p1] h Q = F59 p0 p1 h Q := by kernel_rfl
theorem c59 {p0 : Sl} {p1 : Int} {h : Hp} {Q : Sl × Int → Hp → Prop} (hk : F59 p0 p1 h Q) : callP Tryz.prog 59 [Value.slice p0.a p0.len p0.cap, Value.int IntKind.i64 p1] (tupC [cSl, cI .i64]) h Q :=
  spec_of (prem_of prog_ok dep_ok eqs_ok rfl (by kernel_rfl)) mix_ok ((e59 p0 p1 h Q).mpr hk)
def a79 : Ann := { prom := 0, refs := [], dyn := 0, bcd := fun s => match s with | _ => none, eqs := memL eqL, cdc := cdcs, res := ress, pure := memL [49], pan := memL [48, 81] }
def n79 : An := (.seq (.reg []) (.seq (.reg []) (.seq (.seq (.reg []) (.block (.loop [(5, false, cI .u64), (14, false, cI .i64)] 281474976694524 (.seq (.reg []) (.seq (.cond .leaf .leaf) (.seq (.block (.seq (.reg []) (.seq (.reg []) (.seq (.seq (.reg []) (.cond .leaf .leaf)) (.seq (.join [(42, false, cB)] 8795556151296 (.reg []) (.cond (.seq (.reg []) .leaf) .leaf)) (.seq (.reg []) .leaf)))))) (.reg []))))))) (.seq (.reg []) .leaf))))
/-- consols/pack.First -/
def F79 (p0 : Sl) (h : Hp) (Q : Int × Int × Bool → Hp → Prop) : Prop :=
  cutP p0.len p0.cap none (some (minI (↑p0.len : Int) (10 : Int))) fun (k1 k2 : Nat) =>
    loopP ((0 : Int), (0 : Int)) h fun (J1 : Int × Int → Hp → Prop) (z1 : Int × Int) (h1 : Hp) =>
      condP (decide (z1.snd < (↑(k2 - k1) : Int)))
        (idxP (cutA p0.a k1 p0.cap (1 : Nat)) (k2 - k1) z1.snd fun (a1 : Addr) =>
          loadP (cI IntKind.u8) (a1.add (z1.snd.toNat * (1 : Nat))) h1 fun (n1 : Int) =>
            (128 : Int) ≠ (0 : Int) ∧
              (0 : Int) ≤ IntKind.i64.wrap ((7 : Int) * z1.snd) ∧
                condP (decide (n1 ≥ (128 : Int))) (J1 (orI IntKind.u64 z1.fst (shlI IntKind.u64 (IntKind.u64.wrap (n1.tmod (128 : Int))) (IntKind.i64.wrap ((7 : Int) * z1.snd))), IntKind.i64.wrap (z1.snd + (1 : Int))) h1)
                  (joinP
                    (fun (t1 : Bool) (h2 : Hp) =>
                      condP t1 (Q ((0 : Int), (0 : Int), false) h2)
                        (callP Tryz.prog (95 : Nat) [Value.int IntKind.u64 (orI IntKind.u64 z1.fst (shlI IntKind.u64 (IntKind.u64.wrap (n1.tmod (128 : Int))) (IntKind.i64.wrap ((7 : Int) * z1.snd))))] (cI IntKind.i64) h2
                          fun (n2 : Int) (h3 : Hp) => Q (n2, IntKind.i64.wrap (z1.snd + (1 : Int)), true) h3))
                    fun (J2 : Bool → Hp → Prop) =>
                    condP (n1 == (0 : Int)) (condP (decide (z1.snd > (0 : Int))) (J2 true h1) (condP (z1.snd == (9 : Int)) (J2 (decide (n1 > (1 : Int))) h1) (J2 false h1)))
                      (condP (z1.snd == (9 : Int)) (J2 (decide (n1 > (1 : Int))) h1) (J2 false h1))))
        (Q ((0 : Int), (0 : Int), false) h1)
theorem e79 (p0 : Sl) (h : Hp) (Q : Int × Int × Bool → Hp → Prop) : fnD a79 Tryz.prog 79 n79 (tupC [cI .i64, cI .i64, cB]) [Value.slice p0.a p0.len p0.cap] h Q = F79 p0 h Q := by kernel_rfl
theorem c79 {p0 : Sl} {h : Hp} {Q : Int × Int × Bool → Hp → Prop} (hk : F79 p0 h Q) : callP Tryz.prog 79 [Value.slice p0.a p0.len p0.cap] (tupC [cI .i64, cI .i64, cB]) h Q :=
  spec_of (prem_of prog_ok dep_ok eqs_ok rfl (by kernel_rfl)) mix_ok ((e79 p0 h Q).mpr hk)
def a58 : Ann := { prom := 0, refs := [], dyn := 0, bcd := fun s => match s with | _ => none, eqs := memL eqL, cdc := cdcs, res := ress, pure := memL [49], pan := memL [48, 81] }
def n58 : An := (.seq (.reg []) (.seq (.reg []) (.seq (.seq (.reg []) (.block (.loop [(5, false, cI .u64), (6, false, cI .i64)] 562949953421308 (.seq (.join [(15, false, cB)] 65280 (.reg []) (.cond .leaf .leaf)) (.seq (.block (.seq (.reg []) (.seq (.reg []) (.cond (.seq (.reg []) (.seq (.seq (.reg [(0, []), (3, []), (4, []), (5, []), (6, []), (7, []), (1, [7]), (2, []), (8, [])]) (.cond (.seq (.reg []) .leaf) .leaf)) (.seq (.reg []) .leaf))) .leaf)))) (.reg [])))))) (.seq (.reg []) .leaf))))
/-- consols/consolsref3.First -/
def F58 (p0 : Sl) (h : Hp) (Q : Int × Int × Bool → Hp → Prop) : Prop :=
  loopP ((0 : Int), (0 : Int)) h fun (J1 : Int × Int → Hp → Prop) (z1 : Int × Int) (h1 : Hp) =>
    joinP
      (fun (t1 : Bool) (h2 : Hp) =>
        condP t1
          (idxP p0.a p0.len z1.snd fun (a1 : Addr) =>
            loadP (cI IntKind.u8) (a1.add (z1.snd.toNat * (1 : Nat))) h2 fun (n1 : Int) =>
              (128 : Int) ≠ (0 : Int) ∧
                (0 : Int) ≤ IntKind.u64.wrap (IntKind.i64.wrap ((7 : Int) * z1.snd)) ∧
                  idxP p0.a p0.len z1.snd fun (a2 : Addr) =>
                    loadP (cI IntKind.u8) (a2.add (z1.snd.toNat * (1 : Nat))) h2 fun (n2 : Int) =>
                      condP (decide (n2 < (128 : Int)))
                        (callP Tryz.prog (87 : Nat) [Value.int IntKind.u64 (orI IntKind.u64 z1.fst (shlI IntKind.u64 (IntKind.u64.wrap (n1.tmod (128 : Int))) (IntKind.u64.wrap (IntKind.i64.wrap ((7 : Int) * z1.snd)))))] (cI IntKind.i64) h2
                          fun (n3 : Int) (h3 : Hp) =>
                          cutP p0.len p0.cap none (some (IntKind.i64.wrap (z1.snd + (1 : Int)))) fun (k1 k2 : Nat) =>
                            strP (cutA p0.a k1 p0.cap (1 : Nat)) (k2 - k1) h3 fun (u1 : ByteArray) =>
                              callP Tryz.prog (88 : Nat) [Value.int IntKind.i64 n3] cSl h3 fun (s1 : Sl) (h4 : Hp) =>
                                ((strP (cutA p0.a k1 p0.cap (1 : Nat)) (k2 - k1) h4 fun (u2 : ByteArray) => u2 = u1) ∧ True) ∧
                                  strP s1.a s1.len h4 fun (u3 : ByteArray) => condP (!strEq u3 u1) (Q ((0 : Int), (0 : Int), false) h4) (Q (n3, IntKind.i64.wrap (z1.snd + (1 : Int)), true) h4))
                        (J1 (orI IntKind.u64 z1.fst (shlI IntKind.u64 (IntKind.u64.wrap (n1.tmod (128 : Int))) (IntKind.u64.wrap (IntKind.i64.wrap ((7 : Int) * z1.snd)))), IntKind.i64.wrap (z1.snd + (1 : Int))) h2))
          (Q ((0 : Int), (0 : Int), false) h2))
      fun (J2 : Bool → Hp → Prop) => condP (decide (z1.snd < (↑p0.len : Int))) (J2 (decide (z1.snd < (10 : Int))) h1) (J2 false h1)
theorem e58 (p0 : Sl) (h : Hp) (Q : Int × Int × Bool → Hp → Prop) : fnD a58 Tryz.prog 58 n58 (tupC [cI .i64, cI .i64, cB]) [Value.slice p0.a p0.len p0.cap] h Q = F58 p0 h Q := by kernel_rfl
theorem c58 {p0 : Sl} {h : Hp} {Q : Int × Int × Bool → Hp → Prop} (hk : F58 p0 h Q) : callP Tryz.prog 58 [Value.slice p0.a p0.len p0.cap] (tupC [cI .i64, cI .i64, cB]) h Q :=
  spec_of (prem_of prog_ok dep_ok eqs_ok rfl (by kernel_rfl)) mix_ok ((e58 p0 h Q).mpr hk)
def a53 : Ann := { prom := 0, refs := [], dyn := 0, bcd := fun s => match s with | _ => none, eqs := memL eqL, cdc := cdcs, res := ress, pure := memL [49], pan := memL [48, 81] }
def n53 : An := (.seq (.reg []) (.seq (.seq (.reg []) (.cond (.seq (.reg []) .leaf) .leaf)) (.seq (.reg []) (.seq (.reg []) .leaf))))
/-- consols/frame.Put -/
def F53 (p0 : Sl) (h : Hp) (Q : Sl × Bool → Hp → Prop) : Prop :=
  condP (decide ((↑p0.len : Int) > (80 : Int))) (Q ({ a := none, len := (0 : Nat), cap := (0 : Nat) : Sl }, false) h)
    (allocP (Obj.cells { toList := [Value.int IntKind.u8 (197 : Int), Value.int IntKind.u8 (IntKind.u8.wrap (↑p0.len : Int))] : Array Value } (5 : Nat)) h fun (k1 : Nat) (h1 : Hp) =>
      allocP (Obj.cells { toList := [Value.slice (some { block := k1, off := (0 : Nat) : Addr }) (2 : Nat) (2 : Nat), Value.slice p0.a p0.len p0.cap] : Array Value } (27 : Nat)) h1 fun (k2 : Nat) (h2 : Hp) =>
        callP Tryz.prog (77 : Nat) [Value.slice (some { block := k2, off := (0 : Nat) : Addr }) (2 : Nat) (2 : Nat)] (cI IntKind.u32) h2 fun (n1 : Int) (h3 : Hp) =>
          callP Tryz.prog (76 : Nat) [Value.int IntKind.u32 n1] cSl h3 fun (s1 : Sl) (h4 : Hp) =>
            allocP (Obj.cells { toList := [Value.slice (some { block := k1, off := (0 : Nat) : Addr }) (2 : Nat) (2 : Nat), Value.slice p0.a p0.len p0.cap, Value.slice s1.a s1.len s1.cap] : Array Value } (27 : Nat)) h4
              fun (k3 : Nat) (h5 : Hp) => callP Tryz.prog (85 : Nat) [Value.slice (some { block := k3, off := (0 : Nat) : Addr }) (3 : Nat) (3 : Nat)] cSl h5 fun (s2 : Sl) (h6 : Hp) => Q (s2, true) h6)
theorem e53 (p0 : Sl) (h : Hp) (Q : Sl × Bool → Hp → Prop) : fnD a53 Tryz.prog 53 n53 (tupC [cSl, cB]) [Value.slice p0.a p0.len p0.cap] h Q = F53 p0 h Q := by kernel_rfl
theorem c53 {p0 : Sl} {h : Hp} {Q : Sl × Bool → Hp → Prop} (hk : F53 p0 h Q) : callP Tryz.prog 53 [Value.slice p0.a p0.len p0.cap] (tupC [cSl, cB]) h Q :=
  spec_of (prem_of prog_ok dep_ok eqs_ok rfl (by kernel_rfl)) mix_ok ((e53 p0 h Q).mpr hk)
def a71 : Ann := { prom := 0, refs := [], dyn := 0, bcd := fun s => match s with | _ => none, eqs := memL eqL, cdc := cdcs, res := ress, pure := memL [49], pan := memL [48, 81] }
def n71 : An := (.seq (.reg []) (.seq (.seq (.reg []) (.cond (.seq (.reg []) .leaf) .leaf)) (.seq (.reg []) (.seq (.reg []) (.seq (.reg []) .leaf)))))
/-- consols/consolsref6.Put -/
def F71 (p0 : Sl) (h : Hp) (Q : Sl × Bool → Hp → Prop) : Prop :=
  condP (decide ((↑p0.len : Int) > (80 : Int))) (Q ({ a := none, len := (0 : Nat), cap := (0 : Nat) : Sl }, false) h)
    (allocP (Obj.cells { toList := [Value.int IntKind.u8 (197 : Int), Value.int IntKind.u8 (IntKind.u8.wrap (↑p0.len : Int))] : Array Value } (5 : Nat)) h fun (k1 : Nat) (h1 : Hp) =>
      appendP (cI IntKind.u8) (5 : Nat) (1 : Nat) (some { block := k1, off := (0 : Nat) : Addr }) (2 : Nat) (2 : Nat) p0.a p0.len h1 fun (p1 : Option Addr) (k2 k3 : Nat) (h2 : Hp) =>
        callP Tryz.prog (92 : Nat) [Value.slice p1 k2 k3] (cI IntKind.u32) h2 fun (n1 : Int) (h3 : Hp) =>
          (0 : Int) ≤ (24 : Int) ∧
            (0 : Int) ≤ (16 : Int) ∧
              (0 : Int) ≤ (8 : Int) ∧
                allocP
                  (Obj.cells
                    {
                      toList :=
                        [Value.int IntKind.u8 (IntKind.u8.wrap (shrI IntKind.u32 n1 (24 : Int))), Value.int IntKind.u8 (IntKind.u8.wrap (shrI IntKind.u32 n1 (16 : Int))),
                          Value.int IntKind.u8 (IntKind.u8.wrap (shrI IntKind.u32 n1 (8 : Int))), Value.int IntKind.u8 (IntKind.u8.wrap n1)] :
                      Array Value }
                    (5 : Nat))
                  h3 fun (k4 : Nat) (h4 : Hp) =>
                  appendP (cI IntKind.u8) (5 : Nat) (1 : Nat) p1 k2 k3 (some { block := k4, off := (0 : Nat) : Addr }) (4 : Nat) h4 fun (p2 : Option Addr) (k5 k6 : Nat) (h5 : Hp) => Q ({ a := p2, len := k5, cap := k6 : Sl }, true) h5)
theorem e71 (p0 : Sl) (h : Hp) (Q : Sl × Bool → Hp → Prop) : fnD a71 Tryz.prog 71 n71 (tupC [cSl, cB]) [Value.slice p0.a p0.len p0.cap] h Q = F71 p0 h Q := by kernel_rfl
theorem c71 {p0 : Sl} {h : Hp} {Q : Sl × Bool → Hp → Prop} (hk : F71 p0 h Q) : callP Tryz.prog 71 [Value.slice p0.a p0.len p0.cap] (tupC [cSl, cB]) h Q :=
  spec_of (prem_of prog_ok dep_ok eqs_ok rfl (by kernel_rfl)) mix_ok ((e71 p0 h Q).mpr hk)
def a46 : Ann := { prom := 0, refs := [], dyn := 0, bcd := fun s => match s with | _ => none, eqs := memL eqL, cdc := cdcs, res := ress, pure := memL [49], pan := memL [48, 81] }
def n46 : An := (.seq (.reg []) (.seq (.join [(19, false, cB)] 1048544 (.reg []) (.cond (.seq (.reg []) .leaf) .leaf)) (.seq (.reg []) (.seq (.join [(44, false, cB)] 35184338534400 (.reg [(0, []), (1, []), (2, []), (3, []), (4, []), (5, []), (6, []), (7, []), (8, []), (12, []), (13, []), (14, []), (15, []), (16, []), (9, []), (10, []), (11, []), (17, []), (18, []), (19, [])]) (.cond (.seq (.reg []) .leaf) .leaf)) (.seq (.reg []) .leaf)))))
/-- consols/frame.Get -/
def F46 (p0 : Sl) (h : Hp) (Q : Sl × Int × Bool → Hp → Prop) : Prop :=
  joinP
    (fun (t1 : Bool) (h1 : Hp) =>
      condP t1 (Q ({ a := none, len := (0 : Nat), cap := (0 : Nat) : Sl }, (0 : Int), false) h1)
        (idxP p0.a p0.len (1 : Int) fun (a1 : Addr) =>
          loadP (cI IntKind.u8) { block := a1.block, off := a1.off + (1 : Nat) : Addr } h1 fun (n1 : Int) =>
            joinP
              (fun (t2 : Bool) (h2 : Hp) =>
                condP t2 (Q ({ a := none, len := (0 : Nat), cap := (0 : Nat) : Sl }, (0 : Int), false) h2)
                  (cutP p0.len p0.cap (some (2 : Int)) (some (IntKind.i64.wrap ((2 : Int) + IntKind.i64.wrap n1))) fun (k1 k2 : Nat) =>
                    callP Tryz.prog (78 : Nat) [Value.slice (cutA p0.a k1 p0.cap (1 : Nat)) (k2 - k1) (p0.cap - k1)] cSl h2 fun (s1 : Sl) (h3 : Hp) =>
                      Q (s1, IntKind.i64.wrap (IntKind.i64.wrap ((2 : Int) + IntKind.i64.wrap n1) + (4 : Int)), true) h3))
              fun (J1 : Bool → Hp → Prop) =>
              condP (decide ((↑p0.len : Int) < IntKind.i64.wrap (IntKind.i64.wrap ((2 : Int) + IntKind.i64.wrap n1) + (4 : Int)))) (J1 true h1)
                (cutP p0.len p0.cap none (some (IntKind.i64.wrap ((2 : Int) + IntKind.i64.wrap n1))) fun (k3 k4 : Nat) =>
                  cutP p0.len p0.cap (some (IntKind.i64.wrap ((2 : Int) + IntKind.i64.wrap n1))) (some (IntKind.i64.wrap (IntKind.i64.wrap ((2 : Int) + IntKind.i64.wrap n1) + (4 : Int)))) fun (k5 k6 : Nat) =>
                    allocP (Obj.cells { toList := [Value.slice (cutA p0.a k3 p0.cap (1 : Nat)) (k4 - k3) (p0.cap - k3)] : Array Value } (27 : Nat)) h1 fun (k7 : Nat) (h4 : Hp) =>
                      callP Tryz.prog (77 : Nat) [Value.slice (some { block := k7, off := (0 : Nat) : Addr }) (1 : Nat) (1 : Nat)] (cI IntKind.u32) h4 fun (n2 : Int) (h5 : Hp) =>
                        callP Tryz.prog (76 : Nat) [Value.int IntKind.u32 n2] cSl h5 fun (s2 : Sl) (h6 : Hp) =>
                          callP Tryz.prog (75 : Nat) [Value.slice s2.a s2.len s2.cap, Value.slice (cutA p0.a k5 p0.cap (1 : Nat)) (k6 - k5) (p0.cap - k5)] cB h6 fun (t3 : Bool) (h7 : Hp) => J1 (!t3) h7)))
    fun (J2 : Bool → Hp → Prop) =>
    condP (decide ((↑p0.len : Int) < (2 : Int))) (J2 true h)
      (idxP p0.a p0.len (0 : Int) fun (a2 : Addr) =>
        loadP (cI IntKind.u8) (a2.add (0 : Nat)) h fun (n3 : Int) =>
          condP (n3 != (197 : Int)) (J2 true h) (idxP p0.a p0.len (1 : Int) fun (a3 : Addr) => loadP (cI IntKind.u8) { block := a3.block, off := a3.off + (1 : Nat) : Addr } h fun (n4 : Int) => J2 (decide (n4 > (80 : Int))) h))
theorem e46 (p0 : Sl) (h : Hp) (Q : Sl × Int × Bool → Hp → Prop) : fnD a46 Tryz.prog 46 n46 (tupC [cSl, cI .i64, cB]) [Value.slice p0.a p0.len p0.cap] h Q = F46 p0 h Q := by kernel_rfl
theorem c46 {p0 : Sl} {h : Hp} {Q : Sl × Int × Bool → Hp → Prop} (hk : F46 p0 h Q) : callP Tryz.prog 46 [Value.slice p0.a p0.len p0.cap] (tupC [cSl, cI .i64, cB]) h Q :=
  spec_of (prem_of prog_ok dep_ok eqs_ok rfl (by kernel_rfl)) mix_ok ((e46 p0 h Q).mpr hk)
def a56 : Ann := { prom := 0, refs := [], dyn := 0, bcd := fun s => match s with | _ => none, eqs := memL eqL, cdc := cdcs, res := ress, pure := memL [49], pan := memL [48, 81] }
def n56 : An := (.seq (.reg []) (.seq (.join [(34, false, cB)] 34359737856 (.reg []) (.cond (.seq (.reg []) .leaf) .leaf)) (.seq (.reg []) (.seq (.reg []) (.seq (.reg []) (.seq (.seq (.reg [(0, []), (2, []), (3, []), (4, []), (1, []), (5, []), (6, [])]) (.cond (.seq (.reg []) .leaf) .leaf)) (.seq (.reg []) .leaf)))))))
/-- consols/consolsref6.Get -/
def F56 (p0 : Sl) (h : Hp) (Q : Sl × Int × Bool → Hp → Prop) : Prop :=
  joinP
    (fun (t1 : Bool) (h1 : Hp) =>
      condP t1 (Q ({ a := none, len := (0 : Nat), cap := (0 : Nat) : Sl }, (0 : Int), false) h1)
        (idxP p0.a p0.len (1 : Int) fun (a1 : Addr) =>
          loadP (cI IntKind.u8) { block := a1.block, off := a1.off + (1 : Nat) : Addr } h1 fun (n1 : Int) =>
            allocP (Obj.cells { toList := [] : Array Value } (5 : Nat)) h1 fun (k1 : Nat) (h2 : Hp) =>
              cutP p0.len p0.cap (some (2 : Int)) (some (IntKind.i64.wrap (IntKind.i64.wrap ((6 : Int) + IntKind.i64.wrap n1) - (4 : Int)))) fun (k2 k3 : Nat) =>
                appendP (cI IntKind.u8) (5 : Nat) (1 : Nat) (some { block := k1, off := (0 : Nat) : Addr }) (0 : Nat) (0 : Nat) (cutA p0.a k2 p0.cap (1 : Nat)) (k3 - k2) h2 fun (p1 : Option Addr) (k4 k5 : Nat) (h3 : Hp) =>
                  callP Tryz.prog (71 : Nat) [Value.slice p1 k4 k5] (tupC [cSl, cB]) h3 fun (z1 : Sl × Bool) (h4 : Hp) =>
                    cutP p0.len p0.cap none (some (IntKind.i64.wrap ((6 : Int) + IntKind.i64.wrap n1))) fun (k6 k7 : Nat) =>
                      strP z1.fst.a z1.fst.len h4 fun (u1 : ByteArray) =>
                        strP (cutA p0.a k6 p0.cap (1 : Nat)) (k7 - k6) h4 fun (u2 : ByteArray) =>
                          condP (!strEq u1 u2) (Q ({ a := none, len := (0 : Nat), cap := (0 : Nat) : Sl }, (0 : Int), false) h4) (Q ({ a := p1, len := k4, cap := k5 : Sl }, IntKind.i64.wrap ((6 : Int) + IntKind.i64.wrap n1), true) h4)))
    fun (J1 : Bool → Hp → Prop) =>
    condP (decide ((↑p0.len : Int) < (6 : Int))) (J1 true h)
      (idxP p0.a p0.len (0 : Int) fun (a2 : Addr) =>
        loadP (cI IntKind.u8) (a2.add (0 : Nat)) h fun (n2 : Int) =>
          condP (n2 != (197 : Int)) (J1 true h)
            (idxP p0.a p0.len (1 : Int) fun (a3 : Addr) =>
              loadP (cI IntKind.u8) { block := a3.block, off := a3.off + (1 : Nat) : Addr } h fun (n3 : Int) =>
                condP (decide (IntKind.i64.wrap n3 > (80 : Int))) (J1 true h)
                  (idxP p0.a p0.len (1 : Int) fun (a4 : Addr) =>
                    loadP (cI IntKind.u8) { block := a4.block, off := a4.off + (1 : Nat) : Addr } h fun (n4 : Int) => J1 (decide ((↑p0.len : Int) < IntKind.i64.wrap ((6 : Int) + IntKind.i64.wrap n4))) h)))
theorem e56 (p0 : Sl) (h : Hp) (Q : Sl × Int × Bool → Hp → Prop) : fnD a56 Tryz.prog 56 n56 (tupC [cSl, cI .i64, cB]) [Value.slice p0.a p0.len p0.cap] h Q = F56 p0 h Q := by kernel_rfl
theorem c56 {p0 : Sl} {h : Hp} {Q : Sl × Int × Bool → Hp → Prop} (hk : F56 p0 h Q) : callP Tryz.prog 56 [Value.slice p0.a p0.len p0.cap] (tupC [cSl, cI .i64, cB]) h Q :=
  spec_of (prem_of prog_ok dep_ok eqs_ok rfl (by kernel_rfl)) mix_ok ((e56 p0 h Q).mpr hk)
def a21 : Ann := { prom := 0, refs := [], dyn := 0, bcd := fun s => match s with | _ => none, eqs := memL eqL, cdc := cdcs, res := ress, pure := memL [49], pan := memL [48, 81] }
def n21 : An := (.seq (.reg []) (.seq (.reg []) .leaf))
/-- consols/flow.New -/
def F21  (h : Hp) (Q : Option Addr → Hp → Prop) : Prop :=
  allocP (Obj.cells { toList := [Value.slice none (0 : Nat) (0 : Nat), Value.int IntKind.i64 (0 : Int)] : Array Value } (88 : Nat)) h fun (k1 : Nat) (h1 : Hp) => Q (some { block := k1, off := (0 : Nat) : Addr }) h1
theorem e21  (h : Hp) (Q : Option Addr → Hp → Prop) : fnD a21 Tryz.prog 21 n21 (cP) [] h Q = F21  h Q := by kernel_rfl
theorem c21  {h : Hp} {Q : Option Addr → Hp → Prop} (hk : F21  h Q) : callP Tryz.prog 21 [] (cP) h Q :=
  spec_of (prem_of prog_ok dep_ok eqs_ok rfl (by kernel_rfl)) mix_ok ((e21  h Q).mpr hk)
def a13 : Ann := { prom := 0, refs := [], dyn := 0, bcd := fun s => match s with | _ => none, eqs := memL eqL, cdc := cdcs, res := ress, pure := memL [49], pan := memL [48, 81] }
def n13 : An := (.seq (.reg []) (.seq (.seq (.reg []) (.cond (.seq (.reg []) .leaf) .leaf)) (.seq (.seq (.reg []) (.block (.loop [(5, false, cI .i64)] 268433456 (.seq (.seq (.reg []) (.cond .leaf .leaf)) (.seq (.block (.seq (.reg [(0, []), (1, []), (2, []), (5, []), (6, []), (7, []), (3, []), (4, []), (8, []), (9, []), (10, [])]) (.cond (.seq (.reg []) .leaf) .leaf))) (.reg [])))))) (.seq (.reg []) .leaf))))
/-- consols/consolsref7.Same -/
def F13 (p0 : Sl) (p1 : Sl) (h : Hp) (Q : Bool → Hp → Prop) : Prop :=
  condP ((↑p0.len : Int) != (↑p1.len : Int)) (Q false h)
    (loopP (0 : Int) h fun (J1 : Int → Hp → Prop) (n1 : Int) (h1 : Hp) =>
      condP (decide (n1 < (↑p0.len : Int)))
        (idxP p0.a p0.len n1 fun (a1 : Addr) =>
          idxP p1.a p1.len n1 fun (a2 : Addr) =>
            loadP cSl (a1.add (n1.toNat * (1 : Nat))) h1 fun (s1 : Sl) =>
              strP s1.a s1.len h1 fun (u1 : ByteArray) =>
                loadP cSl (a2.add (n1.toNat * (1 : Nat))) h1 fun (s2 : Sl) => strP s2.a s2.len h1 fun (u2 : ByteArray) => condP (!strEq u1 u2) (Q false h1) (J1 (IntKind.i64.wrap (n1 + (1 : Int))) h1))
        (Q true h1))
theorem e13 (p0 : Sl) (p1 : Sl) (h : Hp) (Q : Bool → Hp → Prop) : fnD a13 Tryz.prog 13 n13 (cB) [Value.slice p0.a p0.len p0.cap, Value.slice p1.a p1.len p1.cap] h Q = F13 p0 p1 h Q := by kernel_rfl
theorem c13 {p0 : Sl} {p1 : Sl} {h : Hp} {Q : Bool → Hp → Prop} (hk : F13 p0 p1 h Q) : callP Tryz.prog 13 [Value.slice p0.a p0.len p0.cap, Value.slice p1.a p1.len p1.cap] (cB) h Q :=
  spec_of (prem_of prog_ok dep_ok eqs_ok rfl (by kernel_rfl)) mix_ok ((e13 p0 p1 h Q).mpr hk)
def a25 : Ann := { prom := 0, refs := [], dyn := 0, bcd := fun s => match s with | _ => none, eqs := memL eqL, cdc := cdcs, res := ress, pure := memL [49], pan := memL [48, 81] }
def n25 : An := (.seq (.reg []) (.seq (.seq (.reg []) (.cond (.seq (.reg []) .leaf) .leaf)) (.seq (.reg []) (.seq (.reg []) (.seq (.block (.loop [(5, false, cSl), (6, false, cSl)] 562949953160160 (.seq (.join [(25, false, cB)] 66846720 (.reg []) (.cond .leaf .leaf)) (.blockJ [(5, false, cSl), (6, false, cSl)] 562949886313440 (.seq (.reg []) (.seq (.seq (.reg []) (.cond (.seq (.reg []) (.seq (.reg []) .leaf)) .leaf)) (.seq (.reg []) (.reg [])))))))) (.seq (.reg []) (.seq (.reg []) .leaf)))))))
/-- (*consols/flow.Flow).Push -/
def F25 (p0 : Option Addr) (p1 : Sl) (h : Hp) (Q : Sl → Hp → Prop) : Prop :=
  condP p0.isNone (Q { a := none, len := (0 : Nat), cap := (0 : Nat) : Sl } h)
    (nilP p0 fun (a1 : Addr) =>
      loadP cSl (a1.add (0 : Nat)) h fun (s1 : Sl) =>
        appendP (cI IntKind.u8) (5 : Nat) (1 : Nat) s1.a s1.len s1.cap p1.a p1.len h fun (p1 : Option Addr) (k1 k2 : Nat) (h1 : Hp) =>
          loopP ({ a := none, len := (0 : Nat), cap := (0 : Nat) : Sl }, { a := p1, len := k1, cap := k2 : Sl }) h1 fun (J1 : Sl × Sl → Hp → Prop) (z1 : Sl × Sl) (h2 : Hp) =>
            joinP
              (fun (t1 : Bool) (h3 : Hp) =>
                condP t1
                  (joinP (fun (z2 : Sl × Sl) (h4 : Hp) => J1 (z2.fst, z2.snd) h4) fun (J2 : Sl × Sl → Hp → Prop) =>
                    callP Tryz.prog (46 : Nat) [Value.slice z1.snd.a z1.snd.len z1.snd.cap] (tupC [cSl, cI IntKind.i64, cB]) h3 fun (z3 : Sl × Int × Bool) (h5 : Hp) =>
                      condP z3.snd.snd
                        (allocP (Obj.cells { toList := [Value.slice z3.fst.a z3.fst.len z3.fst.cap] : Array Value } (27 : Nat)) h5 fun (k3 : Nat) (h6 : Hp) =>
                          appendP cSl (27 : Nat) (24 : Nat) z1.fst.a z1.fst.len z1.fst.cap (some { block := k3, off := (0 : Nat) : Addr }) (1 : Nat) h6 fun (p2 : Option Addr) (k4 k5 : Nat) (h7 : Hp) =>
                            cutP z1.snd.len z1.snd.cap (some z3.snd.fst) none fun (k6 k7 : Nat) => J2 ({ a := p2, len := k4, cap := k5 : Sl }, { a := cutA z1.snd.a k6 z1.snd.cap (1 : Nat), len := k7 - k6, cap := z1.snd.cap - k6 : Sl }) h7)
                        (nilP p0 fun (a2 : Addr) =>
                          loadP (cI IntKind.i64) { block := a2.block, off := a2.off + (1 : Nat) : Addr } h5 fun (n1 : Int) =>
                            nilP p0 fun (a3 : Addr) =>
                              storeP (cI IntKind.i64) { block := a3.block, off := a3.off + (1 : Nat) : Addr } (IntKind.i64.wrap (n1 + (1 : Int))) h5 fun (h8 : Hp) =>
                                cutP z1.snd.len z1.snd.cap (some (1 : Int)) none fun (k8 k9 : Nat) => J2 (z1.fst, { a := cutA z1.snd.a k8 z1.snd.cap (1 : Nat), len := k9 - k8, cap := z1.snd.cap - k8 : Sl }) h8))
                  (allocP (Obj.cells { toList := [] : Array Value } (5 : Nat)) h3 fun (k10 : Nat) (h9 : Hp) =>
                    appendP (cI IntKind.u8) (5 : Nat) (1 : Nat) (some { block := k10, off := (0 : Nat) : Addr }) (0 : Nat) (0 : Nat) z1.snd.a z1.snd.len h9 fun (p3 : Option Addr) (k11 k12 : Nat) (h10 : Hp) =>
                      nilP p0 fun (a4 : Addr) => storeP cSl (a4.add (0 : Nat)) { a := p3, len := k11, cap := k12 : Sl } h10 fun (h11 : Hp) => Q z1.fst h11))
              fun (J3 : Bool → Hp → Prop) => condP (decide ((↑z1.snd.len : Int) > (0 : Int))) (callP Tryz.prog (45 : Nat) [Value.slice z1.snd.a z1.snd.len z1.snd.cap] cB h2 fun (t2 : Bool) (h12 : Hp) => J3 (!t2) h12) (J3 false h2))
theorem e25 (p0 : Option Addr) (p1 : Sl) (h : Hp) (Q : Sl → Hp → Prop) : fnD a25 Tryz.prog 25 n25 (cSl) [Value.pointer p0, Value.slice p1.a p1.len p1.cap] h Q = F25 p0 p1 h Q := by kernel_rfl
theorem c25 {p0 : Option Addr} {p1 : Sl} {h : Hp} {Q : Sl → Hp → Prop} (hk : F25 p0 p1 h Q) : callP Tryz.prog 25 [Value.pointer p0, Value.slice p1.a p1.len p1.cap] (cSl) h Q :=
  spec_of (prem_of prog_ok dep_ok eqs_ok rfl (by kernel_rfl)) mix_ok ((e25 p0 p1 h Q).mpr hk)
def a29 : Ann := { prom := 0, refs := [], dyn := 0, bcd := fun s => match s with | _ => none, eqs := memL eqL, cdc := cdcs, res := ress, pure := memL [49], pan := memL [48, 81] }
def n29 : An := (.seq (.reg []) (.seq (.reg []) (.seq (.reg []) (.seq (.blockJ [(5, false, cSl)] 590295810358704603616 (.loop [(5, false, cSl)] 590295810358704603616 (.seq (.seq (.reg []) (.cond .leaf .leaf)) (.blockJ [(5, false, cSl)] 590295810358638543328 (.seq (.reg []) (.seq (.seq (.reg []) (.cond (.seq (.reg []) (.seq (.reg []) .leaf)) .leaf)) (.seq (.seq (.reg []) (.cond .leaf .leaf)) (.seq (.reg []) (.reg []))))))))) (.seq (.reg []) .leaf)))))
/-- (*consols/consolsref7.Flow).Push -/
def F29 (p0 : Option Addr) (p1 : Sl) (h : Hp) (Q : Sl → Hp → Prop) : Prop :=
  allocP (Obj.cells { toList := [] : Array Value } (5 : Nat)) h fun (k1 : Nat) (h1 : Hp) =>
    nilP p0 fun (a1 : Addr) =>
      loadP cSl (a1.add (0 : Nat)) h1 fun (s1 : Sl) =>
        appendP (cI IntKind.u8) (5 : Nat) (1 : Nat) (some { block := k1, off := (0 : Nat) : Addr }) (0 : Nat) (0 : Nat) s1.a s1.len h1 fun (p1_1 : Option Addr) (k2 k3 : Nat) (h2 : Hp) =>
          appendP (cI IntKind.u8) (5 : Nat) (1 : Nat) p1_1 k2 k3 p1.a p1.len h2 fun (p2 : Option Addr) (k4 k5 : Nat) (h3 : Hp) =>
            nilP p0 fun (a2 : Addr) =>
              storeP cSl (a2.add (0 : Nat)) { a := p2, len := k4, cap := k5 : Sl } h3 fun (h4 : Hp) =>
                joinP (fun (s2 : Sl) (h5 : Hp) => Q s2 h5) fun (J1 : Sl → Hp → Prop) =>
                  loopP { a := none, len := (0 : Nat), cap := (0 : Nat) : Sl } h4 fun (J2 : Sl → Hp → Prop) (s3 : Sl) (h6 : Hp) =>
                    nilP p0 fun (a3 : Addr) =>
                      loadP cSl (a3.add (0 : Nat)) h6 fun (s4 : Sl) =>
                        condP (decide ((↑s4.len : Int) > (0 : Int)))
                          (joinP (fun (s5 : Sl) (h7 : Hp) => J2 s5 h7) fun (J3 : Sl → Hp → Prop) =>
                            nilP p0 fun (a4 : Addr) =>
                              loadP cSl (a4.add (0 : Nat)) h6 fun (s6 : Sl) =>
                                callP Tryz.prog (56 : Nat) [Value.slice s6.a s6.len s6.cap] (tupC [cSl, cI IntKind.i64, cB]) h6 fun (z1 : Sl × Int × Bool) (h8 : Hp) =>
                                  condP z1.snd.snd
                                    (allocP (Obj.cells { toList := [Value.slice z1.fst.a z1.fst.len z1.fst.cap] : Array Value } (27 : Nat)) h8 fun (k6 : Nat) (h9 : Hp) =>
                                      appendP cSl (27 : Nat) (24 : Nat) s3.a s3.len s3.cap (some { block := k6, off := (0 : Nat) : Addr }) (1 : Nat) h9 fun (p3 : Option Addr) (k7 k8 : Nat) (h10 : Hp) =>
                                        nilP p0 fun (a5 : Addr) =>
                                          loadP cSl (a5.add (0 : Nat)) h10 fun (s7 : Sl) =>
                                            cutP s7.len s7.cap (some z1.snd.fst) none fun (k9 k10 : Nat) =>
                                              nilP p0 fun (a6 : Addr) =>
                                                storeP cSl (a6.add (0 : Nat)) { a := cutA s7.a k9 s7.cap (1 : Nat), len := k10 - k9, cap := s7.cap - k9 : Sl } h10 fun (h11 : Hp) => J3 { a := p3, len := k7, cap := k8 : Sl } h11)
                                    (nilP p0 fun (a7 : Addr) =>
                                      loadP cSl (a7.add (0 : Nat)) h8 fun (s8 : Sl) =>
                                        callP Tryz.prog (57 : Nat) [Value.slice s8.a s8.len s8.cap] cB h8 fun (t1 : Bool) (h12 : Hp) =>
                                          condP t1 (J1 s3 h12)
                                            (nilP p0 fun (a8 : Addr) =>
                                              loadP cSl (a8.add (0 : Nat)) h12 fun (s9 : Sl) =>
                                                cutP s9.len s9.cap (some (1 : Int)) none fun (k11 k12 : Nat) =>
                                                  nilP p0 fun (a9 : Addr) =>
                                                    storeP cSl (a9.add (0 : Nat)) { a := cutA s9.a k11 s9.cap (1 : Nat), len := k12 - k11, cap := s9.cap - k11 : Sl } h12 fun (h13 : Hp) =>
                                                      nilP p0 fun (a10 : Addr) =>
                                                        loadP (cI IntKind.i64) { block := a10.block, off := a10.off + (1 : Nat) : Addr } h13 fun (n1 : Int) =>
                                                          nilP p0 fun (a11 : Addr) => storeP (cI IntKind.i64) { block := a11.block, off := a11.off + (1 : Nat) : Addr } (IntKind.i64.wrap (n1 + (1 : Int))) h13 fun (h14 : Hp) => J3 s3 h14)))
                          (J1 s3 h6)
theorem e29 (p0 : Option Addr) (p1 : Sl) (h : Hp) (Q : Sl → Hp → Prop) : fnD a29 Tryz.prog 29 n29 (cSl) [Value.pointer p0, Value.slice p1.a p1.len p1.cap] h Q = F29 p0 p1 h Q := by kernel_rfl
theorem c29 {p0 : Option Addr} {p1 : Sl} {h : Hp} {Q : Sl → Hp → Prop} (hk : F29 p0 p1 h Q) : callP Tryz.prog 29 [Value.pointer p0, Value.slice p1.a p1.len p1.cap] (cSl) h Q :=
  spec_of (prem_of prog_ok dep_ok eqs_ok rfl (by kernel_rfl)) mix_ok ((e29 p0 p1 h Q).mpr hk)
def a78 : Ann := { prom := 0, refs := [], dyn := 0, bcd := fun s => match s with | _ => none, eqs := memL eqL, cdc := cdcs, res := ress, pure := memL [49], pan := memL [48, 81] }
def n78 : An := (.seq (.reg []) (.seq (.seq (.reg []) (.cond (.seq (.reg []) .leaf) .leaf)) (.seq (.reg []) .leaf)))
/-- bytes.Clone -/
def F78 (p0 : Sl) (h : Hp) (Q : Sl → Hp → Prop) : Prop :=
  condP p0.a.isNone (Q { a := none, len := (0 : Nat), cap := (0 : Nat) : Sl } h)
    (allocP (Obj.cells { toList := [] : Array Value } (5 : Nat)) h fun (k1 : Nat) (h1 : Hp) =>
      appendP (cI IntKind.u8) (5 : Nat) (1 : Nat) (some { block := k1, off := (0 : Nat) : Addr }) (0 : Nat) (0 : Nat) p0.a p0.len h1 fun (p1 : Option Addr) (k2 k3 : Nat) (h2 : Hp) => Q { a := p1, len := k2, cap := k3 : Sl } h2)
theorem e78 (p0 : Sl) (h : Hp) (Q : Sl → Hp → Prop) : fnD a78 Tryz.prog 78 n78 (cSl) [Value.slice p0.a p0.len p0.cap] h Q = F78 p0 h Q := by kernel_rfl
theorem c78 {p0 : Sl} {h : Hp} {Q : Sl → Hp → Prop} (hk : F78 p0 h Q) : callP Tryz.prog 78 [Value.slice p0.a p0.len p0.cap] (cSl) h Q :=
  spec_of (prem_of prog_ok dep_ok eqs_ok rfl (by kernel_rfl)) mix_ok ((e78 p0 h Q).mpr hk)
def a90 : Ann := { prom := 0, refs := [], dyn := 0, bcd := fun s => match s with | _ => none, eqs := memL eqL, cdc := cdcs, res := ress, pure := memL [49], pan := memL [48, 81] }
def n90 : An := (.seq (.reg []) (.seq (.reg []) (.seq (.seq (.reg []) (.cond (.seq (.reg []) .leaf) .leaf)) (.seq (.reg []) (.seq (.reg [(0, []), (1, []), (2, []), (3, []), (4, []), (5, []), (6, []), (7, [])]) (.seq (.reg []) (.seq (.reg []) .leaf)))))))
/-- slices.Delete[[]consols/api.Frame,consols/api.Frame] -/
def F90 (p0 : Sl) (p1 : Int) (p2 : Int) (h : Hp) (Q : Sl → Hp → Prop) : Prop :=
  cut3P p0.cap (some p1) p2 (↑p0.len : Int) fun (k1 k2 k3 : Nat) =>
    condP (p1 == p2) (Q p0 h)
      (cutP p0.len p0.cap none (some p1) fun (k4 k5 : Nat) =>
        cutP p0.len p0.cap (some p2) none fun (k6 k7 : Nat) =>
          appendP cFrame (65 : Nat) (64 : Nat) (cutA p0.a k4 p0.cap (8 : Nat)) (k5 - k4) (p0.cap - k4) (cutA p0.a k6 p0.cap (8 : Nat)) (k7 - k6) h fun (p1 : Option Addr) (k8 k9 : Nat) (h1 : Hp) =>
            cutP k8 k9 (some (↑k8 : Int)) (some (↑p0.len : Int)) fun (k10 k11 : Nat) =>
              clearP cFrame { Seq := (0 : Int), Msg_Kind := (0 : Int), Msg_F_0 := (0 : Int), Msg_F_1 := (0 : Int), Msg_F_2 := (0 : Int), Msg_F_3 := (0 : Int), Msg_F_4 := (0 : Int), Msg_F_5 := (0 : Int) : Frame } (cutA p1 k10 k9 (8 : Nat))
                (k11 - k10) h1 fun (h2 : Hp) => Q { a := p1, len := k8, cap := k9 : Sl } h2)
theorem e90 (p0 : Sl) (p1 : Int) (p2 : Int) (h : Hp) (Q : Sl → Hp → Prop) : fnD a90 Tryz.prog 90 n90 (cSl) [Value.slice p0.a p0.len p0.cap, Value.int IntKind.i64 p1, Value.int IntKind.i64 p2] h Q = F90 p0 p1 p2 h Q := by kernel_rfl
theorem c90 {p0 : Sl} {p1 : Int} {p2 : Int} {h : Hp} {Q : Sl → Hp → Prop} (hk : F90 p0 p1 p2 h Q) : callP Tryz.prog 90 [Value.slice p0.a p0.len p0.cap, Value.int IntKind.i64 p1, Value.int IntKind.i64 p2] (cSl) h Q :=
  spec_of (prem_of prog_ok dep_ok eqs_ok rfl (by kernel_rfl)) mix_ok ((e90 p0 p1 p2 h Q).mpr hk)
def a96 : Ann := { prom := 0, refs := [], dyn := 0, bcd := fun s => match s with | _ => none, eqs := memL eqL, cdc := cdcs, res := ress, pure := memL [49], pan := memL [48, 81] }
def n96 : An := (.seq (.reg []) (.seq (.seq (.reg []) (.cond (.seq (.reg []) .leaf) .leaf)) (.seq (.reg []) .leaf)))
/-- slices.Clone[[]consols/api.Frame,consols/api.Frame] -/
def F96 (p0 : Sl) (h : Hp) (Q : Sl → Hp → Prop) : Prop :=
  condP p0.a.isNone (Q { a := none, len := (0 : Nat), cap := (0 : Nat) : Sl } h)
    (allocP (Obj.cells { toList := [] : Array Value } (65 : Nat)) h fun (k1 : Nat) (h1 : Hp) =>
      appendP cFrame (65 : Nat) (64 : Nat) (some { block := k1, off := (0 : Nat) : Addr }) (0 : Nat) (0 : Nat) p0.a p0.len h1 fun (p1 : Option Addr) (k2 k3 : Nat) (h2 : Hp) => Q { a := p1, len := k2, cap := k3 : Sl } h2)
theorem e96 (p0 : Sl) (h : Hp) (Q : Sl → Hp → Prop) : fnD a96 Tryz.prog 96 n96 (cSl) [Value.slice p0.a p0.len p0.cap] h Q = F96 p0 h Q := by kernel_rfl
theorem c96 {p0 : Sl} {h : Hp} {Q : Sl → Hp → Prop} (hk : F96 p0 h Q) : callP Tryz.prog 96 [Value.slice p0.a p0.len p0.cap] (cSl) h Q :=
  spec_of (prem_of prog_ok dep_ok eqs_ok rfl (by kernel_rfl)) mix_ok ((e96 p0 h Q).mpr hk)
def a98 : Ann := { prom := 0, refs := [], dyn := 0, bcd := fun s => match s with | _ => none, eqs := memL eqL, cdc := cdcs, res := ress, pure := memL [49], pan := memL [48, 81] }
def n98 : An := (.seq (.reg []) (.seq (.reg []) .leaf))
/-- consols/pack.turned -/
def F98 (p0 : Int) (h : Hp) (Q : Int → Hp → Prop) : Prop :=
 (0 : Int) ≤ (1 : Int) ∧ (0 : Int) ≤ (63 : Int) ∧ Q (xorI IntKind.u64 (shlI IntKind.u64 (IntKind.u64.wrap p0) (1 : Int)) (IntKind.u64.wrap (shrI IntKind.i64 p0 (63 : Int)))) h
theorem e98 (p0 : Int) (h : Hp) (Q : Int → Hp → Prop) : fnD a98 Tryz.prog 98 n98 (cI .u64) [Value.int IntKind.i64 p0] h Q = F98 p0 h Q := by kernel_rfl
theorem c98 {p0 : Int} {h : Hp} {Q : Int → Hp → Prop} (hk : F98 p0 h Q) : callP Tryz.prog 98 [Value.int IntKind.i64 p0] (cI .u64) h Q :=
  spec_of (prem_of prog_ok dep_ok eqs_ok rfl (by kernel_rfl)) mix_ok ((e98 p0 h Q).mpr hk)
def a80 : Ann := { prom := 8, refs := [], dyn := 0, bcd := fun s => match s with | 3 => some (cPackshort) | _ => none, eqs := memL eqL, cdc := cdcs, res := ress, pure := memL [49], pan := memL [48, 81] }
def n80 : An := (.seq .regX (.cond (.join [] 65304 (.seq .regX (.seq (.reg []) (.cond .regX .leaf))) (.reg [])) .leaf))
/-- consols/pack.Get$1 -/
def F80_0 (p0 : Addr) (p1 : Addr) (h : Hp) (K : Hp → Prop) : Prop :=
 K h
theorem e80_0 (p0 : Addr) (p1 : Addr) (h : Hp) (K : Hp → Prop) : fnRec a80 Tryz.prog 80 n80 [Value.pointer (some p0), Value.pointer (some p1)] (none) h K = F80_0 p0 p1 h K := by kernel_rfl
theorem c80_0 {p0 : Addr} {p1 : Addr} {h : Hp} {K : Hp → Prop} (hk : F80_0 p0 p1 h K) : deferP Tryz.prog 80 [Value.pointer (some p0), Value.pointer (some p1)] (none) h K :=
  specRec_of (prem_of prog_ok dep_ok eqs_ok rfl (by kernel_rfl)) mix_ok ((e80_0 p0 p1 h K).mpr hk)
/-- consols/pack.Get$1 -/
def F80_1 (p0 : Addr) (p1 : Addr) (h : Hp) (K : Hp → Prop) : Prop :=
  joinP (fun (u1 : PUnit) (h1 : Hp) => storeP cSl p0 { a := none, len := (0 : Nat), cap := (0 : Nat) : Sl } h1 fun (h2 : Hp) => storeP (cI IntKind.i64) p1 (2 : Int) h2 fun (h3 : Hp) => K h3) fun (J1 : PUnit → Hp → Prop) => J1 PUnit.unit h
theorem e80_1 (p0 : Addr) (p1 : Addr) (h : Hp) (K : Hp → Prop) : fnRec a80 Tryz.prog 80 n80 [Value.pointer (some p0), Value.pointer (some p1)] (some (.iface 129 (.agg #[]))) h K = F80_1 p0 p1 h K := by kernel_rfl
theorem c80_1 {p0 : Addr} {p1 : Addr} {h : Hp} {K : Hp → Prop} (hk : F80_1 p0 p1 h K) : deferP Tryz.prog 80 [Value.pointer (some p0), Value.pointer (some p1)] (some (.iface 129 (.agg #[]))) h K :=
  specRec_of (prem_of prog_ok dep_ok eqs_ok rfl (by kernel_rfl)) mix_ok ((e80_1 p0 p1 h K).mpr hk)
def a81 : Ann := { prom := 0, refs := [], dyn := 0, bcd := fun s => match s with | _ => none, eqs := memL eqL, cdc := cdcs, res := ress, pure := memL [49], pan := memL [48, 81] }
def n81 : An := (.seq (.reg []) (.seq (.reg []) (.join [] 122880 (.seq (.reg []) (.cond .regX .leaf)) (.seq (.reg [(0, []), (1, []), (2, []), (3, []), (4, []), (5, [])]) .leaf))))
/-- consols/pack.must -/
def F81 (p0 : Sl) (h : Hp) (Q : Int × Sl → Hp → Prop) (S : Value → Hp → Prop) : Prop :=
  callP Tryz.prog (79 : Nat) [Value.slice p0.a p0.len p0.cap] (tupC [cI IntKind.i64, cI IntKind.i64, cB]) h fun (z1 : Int × Int × Bool) (h1 : Hp) =>
    joinP (fun (u1 : PUnit) (h2 : Hp) => cutP p0.len p0.cap (some z1.snd.fst) none fun (k1 k2 : Nat) => Q (z1.fst, { a := cutA p0.a k1 p0.cap (1 : Nat), len := k2 - k1, cap := p0.cap - k1 : Sl }) h2) fun (J1 : PUnit → Hp → Prop) =>
      condP (!z1.snd.snd) (S (Value.iface (129 : Nat) (Value.agg { toList := [] : Array Value })) h1) (J1 PUnit.unit h1)
theorem e81 (p0 : Sl) (h : Hp) (Q : Int × Sl → Hp → Prop) (S : Value → Hp → Prop) : fnX a81 Tryz.prog 81 n81 (tupC [cI .i64, cSl]) [Value.slice p0.a p0.len p0.cap] h Q S = F81 p0 h Q S := by kernel_rfl
theorem c81 {p0 : Sl} {h : Hp} {Q : Int × Sl → Hp → Prop} {S : Value → Hp → Prop} (hk : F81 p0 h Q S) : callXP Tryz.prog 81 [Value.slice p0.a p0.len p0.cap] (tupC [cI .i64, cSl]) h Q S :=
  specX_of (prem_of prog_ok dep_ok eqs_ok rfl (by kernel_rfl)) mix_ok ((e81 p0 h Q S).mpr hk)
def a88 : Ann := { prom := 0, refs := [], dyn := 0, bcd := fun s => match s with | _ => none, eqs := memL eqL, cdc := cdcs, res := ress, pure := memL [49], pan := memL [48, 81] }
def n88 : An := (.seq (.reg []) (.seq (.reg []) (.seq (.reg []) (.seq (.block (.loop [(3, false, cI .u64), (4, false, cSl)] 262040 (.seq (.seq (.reg []) (.cond .leaf .leaf)) (.block (.seq (.reg []) (.reg [])))))) (.seq (.reg []) .leaf)))))
/-- consols/consolsref3.one -/
def F88 (p0 : Int) (h : Hp) (Q : Sl → Hp → Prop) : Prop :=
  callP Tryz.prog (99 : Nat) [Value.int IntKind.i64 p0] (cI IntKind.u64) h fun (n1 : Int) (h1 : Hp) =>
    loopP (n1, { a := none, len := (0 : Nat), cap := (0 : Nat) : Sl }) h1 fun (J1 : Int × Sl → Hp → Prop) (z1 : Int × Sl) (h2 : Hp) =>
      condP (decide (z1.fst ≥ (128 : Int)))
        ((128 : Int) ≠ (0 : Int) ∧
          allocP (Obj.cells { toList := [Value.int IntKind.u8 (IntKind.u8.wrap (IntKind.u64.wrap (z1.fst.tmod (128 : Int) + (128 : Int))))] : Array Value } (5 : Nat)) h2 fun (k1 : Nat) (h3 : Hp) =>
            appendP (cI IntKind.u8) (5 : Nat) (1 : Nat) z1.snd.a z1.snd.len z1.snd.cap (some { block := k1, off := (0 : Nat) : Addr }) (1 : Nat) h3 fun (p1 : Option Addr) (k2 k3 : Nat) (h4 : Hp) =>
              (128 : Int) ≠ (0 : Int) ∧ J1 (quoI IntKind.u64 z1.fst (128 : Int), { a := p1, len := k2, cap := k3 : Sl }) h4)
        (allocP (Obj.cells { toList := [Value.int IntKind.u8 (IntKind.u8.wrap z1.fst)] : Array Value } (5 : Nat)) h2 fun (k4 : Nat) (h5 : Hp) =>
          appendP (cI IntKind.u8) (5 : Nat) (1 : Nat) z1.snd.a z1.snd.len z1.snd.cap (some { block := k4, off := (0 : Nat) : Addr }) (1 : Nat) h5 fun (p2 : Option Addr) (k5 k6 : Nat) (h6 : Hp) => Q { a := p2, len := k5, cap := k6 : Sl } h6)
theorem e88 (p0 : Int) (h : Hp) (Q : Sl → Hp → Prop) : fnD a88 Tryz.prog 88 n88 (cSl) [Value.int IntKind.i64 p0] h Q = F88 p0 h Q := by kernel_rfl
theorem c88 {p0 : Int} {h : Hp} {Q : Sl → Hp → Prop} (hk : F88 p0 h Q) : callP Tryz.prog 88 [Value.int IntKind.i64 p0] (cSl) h Q :=
  spec_of (prem_of prog_ok dep_ok eqs_ok rfl (by kernel_rfl)) mix_ok ((e88 p0 h Q).mpr hk)
def a95 : Ann := { prom := 0, refs := [], dyn := 0, bcd := fun s => match s with | _ => none, eqs := memL eqL, cdc := cdcs, res := ress, pure := memL [49], pan := memL [48, 81] }
def n95 : An := (.seq (.reg []) (.seq (.reg []) .leaf))
/-- consols/pack.back -/
def F95 (p0 : Int) (h : Hp) (Q : Int → Hp → Prop) : Prop :=
 (0 : Int) ≤ (1 : Int) ∧ Q (xorI IntKind.i64 (IntKind.i64.wrap (shrI IntKind.u64 p0 (1 : Int))) (IntKind.i64.wrap ((0 : Int) - IntKind.i64.wrap (andI IntKind.u64 p0 (1 : Int))))) h
theorem e95 (p0 : Int) (h : Hp) (Q : Int → Hp → Prop) : fnD a95 Tryz.prog 95 n95 (cI .i64) [Value.int IntKind.u64 p0] h Q = F95 p0 h Q := by kernel_rfl
theorem c95 {p0 : Int} {h : Hp} {Q : Int → Hp → Prop} (hk : F95 p0 h Q) : callP Tryz.prog 95 [Value.int IntKind.u64 p0] (cI .i64) h Q :=
  spec_of (prem_of prog_ok dep_ok eqs_ok rfl (by kernel_rfl)) mix_ok ((e95 p0 h Q).mpr hk)
def a87 : Ann := { prom := 0, refs := [], dyn := 0, bcd := fun s => match s with | _ => none, eqs := memL eqL, cdc := cdcs, res := ress, pure := memL [49], pan := memL [48, 81] }
def n87 : An := (.seq (.reg []) (.seq (.seq (.reg []) (.cond (.seq (.reg []) .leaf) .leaf)) (.seq (.reg []) .leaf)))
/-- consols/consolsref3.zag -/
def F87 (p0 : Int) (h : Hp) (Q : Int → Hp → Prop) : Prop :=
  (2 : Int) ≠ (0 : Int) ∧
    condP (p0.tmod (2 : Int) == (1 : Int)) ((2 : Int) ≠ (0 : Int) ∧ Q (IntKind.i64.wrap (IntKind.i64.wrap ((0 : Int) - IntKind.i64.wrap (quoI IntKind.u64 p0 (2 : Int))) - (1 : Int))) h)
      ((2 : Int) ≠ (0 : Int) ∧ Q (IntKind.i64.wrap (quoI IntKind.u64 p0 (2 : Int))) h)
theorem e87 (p0 : Int) (h : Hp) (Q : Int → Hp → Prop) : fnD a87 Tryz.prog 87 n87 (cI .i64) [Value.int IntKind.u64 p0] h Q = F87 p0 h Q := by kernel_rfl
theorem c87 {p0 : Int} {h : Hp} {Q : Int → Hp → Prop} (hk : F87 p0 h Q) : callP Tryz.prog 87 [Value.int IntKind.u64 p0] (cI .i64) h Q :=
  spec_of (prem_of prog_ok dep_ok eqs_ok rfl (by kernel_rfl)) mix_ok ((e87 p0 h Q).mpr hk)
def a85 : Ann := { prom := 0, refs := [], dyn := 0, bcd := fun s => match s with | _ => none, eqs := memL eqL, cdc := cdcs, res := ress, pure := memL [49], pan := memL [48, 81] }
def n85 : An := (.seq (.reg []) (.seq (.reg []) (.seq (.seq (.reg []) (.block (.loop [(3, false, cI .i64), (11, false, cI .i64)] 8386600 (.seq (.reg []) (.seq (.cond .leaf .leaf) (.seq (.blockJ [(3, false, cI .i64)] 4186152 (.seq (.reg []) (.seq (.reg []) (.seq (.reg []) (.cond .regX .leaf))))) (.reg []))))))) (.seq (.reg []) (.seq (.seq (.reg []) (.block (.loop [(6, false, cSl), (27, false, cI .i64)] 34225520960 (.seq (.reg []) (.seq (.cond .leaf .leaf) (.seq (.block (.seq (.reg []) (.reg []))) (.reg []))))))) (.seq (.reg []) .leaf))))))
/-- slices.Concat[[]byte,byte] -/
def F85 (p0 : Sl) (h : Hp) (Q : Sl → Hp → Prop) : Prop :=
  loopP ((0 : Int), (0 : Int)) h fun (J1 : Int × Int → Hp → Prop) (z1 : Int × Int) (h1 : Hp) =>
    condP (decide (z1.snd < (↑p0.len : Int)))
      (joinP (fun (n1 : Int) (h2 : Hp) => J1 (n1, IntKind.i64.wrap (z1.snd + (1 : Int))) h2) fun (J2 : Int → Hp → Prop) =>
        idxP p0.a p0.len z1.snd fun (a1 : Addr) =>
          loadP cSl (a1.add (z1.snd.toNat * (1 : Nat))) h1 fun (s1 : Sl) => condP (decide (IntKind.i64.wrap (z1.fst + (↑s1.len : Int)) < (0 : Int))) False (J2 (IntKind.i64.wrap (z1.fst + (↑s1.len : Int))) h1))
      (callP Tryz.prog (97 : Nat) [Value.slice none (0 : Nat) (0 : Nat), Value.int IntKind.i64 z1.fst] cSl h1 fun (s2 : Sl) (h3 : Hp) =>
        loopP (s2, (0 : Int)) h3 fun (J3 : Sl × Int → Hp → Prop) (z2 : Sl × Int) (h4 : Hp) =>
          condP (decide (z2.snd < (↑p0.len : Int)))
            (idxP p0.a p0.len z2.snd fun (a2 : Addr) =>
              loadP cSl (a2.add (z2.snd.toNat * (1 : Nat))) h4 fun (s3 : Sl) =>
                appendP (cI IntKind.u8) (5 : Nat) (1 : Nat) z2.fst.a z2.fst.len z2.fst.cap s3.a s3.len h4 fun (p1 : Option Addr) (k1 k2 : Nat) (h5 : Hp) =>
                  J3 ({ a := p1, len := k1, cap := k2 : Sl }, IntKind.i64.wrap (z2.snd + (1 : Int))) h5)
            (Q z2.fst h4))
theorem e85 (p0 : Sl) (h : Hp) (Q : Sl → Hp → Prop) : fnD a85 Tryz.prog 85 n85 (cSl) [Value.slice p0.a p0.len p0.cap] h Q = F85 p0 h Q := by kernel_rfl
theorem c85 {p0 : Sl} {h : Hp} {Q : Sl → Hp → Prop} (hk : F85 p0 h Q) : callP Tryz.prog 85 [Value.slice p0.a p0.len p0.cap] (cSl) h Q :=
  spec_of (prem_of prog_ok dep_ok eqs_ok rfl (by kernel_rfl)) mix_ok ((e85 p0 h Q).mpr hk)
def a76 : Ann := { prom := 0, refs := [], dyn := 0, bcd := fun s => match s with | _ => none, eqs := memL eqL, cdc := cdcs, res := ress, pure := memL [49], pan := memL [48, 81] }
def n76 : An := (.seq (.reg []) (.seq (.reg []) (.seq (.seq (.reg []) (.block (.loop [(8, false, cI .i64)] 2096912 (.seq (.reg []) (.seq (.cond .leaf .leaf) (.seq (.block (.seq (.reg []) (.reg []))) (.reg []))))))) (.seq (.reg []) .leaf))))
/-- consols/frame.four -/
def F76 (p0 : Int) (h : Hp) (Q : Sl → Hp → Prop) : Prop :=
  makeSlP (4 : Int) (4 : Int) (1 : Nat)
    (allocP (Obj.cells { toList := [Value.int IntKind.u8 (0 : Int), Value.int IntKind.u8 (0 : Int), Value.int IntKind.u8 (0 : Int), Value.int IntKind.u8 (0 : Int)] : Array Value } (5 : Nat)) h fun (k1 : Nat) (h1 : Hp) =>
      loopP (0 : Int) h1 fun (J1 : Int → Hp → Prop) (n1 : Int) (h2 : Hp) =>
        condP (decide (n1 < (4 : Int)))
          ((0 : Int) ≤ IntKind.i64.wrap ((8 : Int) * IntKind.i64.wrap ((3 : Int) - n1)) ∧
            idxP (some { block := k1, off := (0 : Nat) : Addr }) (4 : Nat) n1 fun (a1 : Addr) =>
              storeP (cI IntKind.u8) (a1.add (n1.toNat * (1 : Nat))) (IntKind.u8.wrap (shrI IntKind.u32 p0 (IntKind.i64.wrap ((8 : Int) * IntKind.i64.wrap ((3 : Int) - n1))))) h2 fun (h3 : Hp) => J1 (IntKind.i64.wrap (n1 + (1 : Int))) h3)
          (Q { a := some { block := k1, off := (0 : Nat) : Addr }, len := (4 : Nat), cap := (4 : Nat) : Sl } h2))
theorem e76 (p0 : Int) (h : Hp) (Q : Sl → Hp → Prop) : fnD a76 Tryz.prog 76 n76 (cSl) [Value.int IntKind.u32 p0] h Q = F76 p0 h Q := by kernel_rfl
theorem c76 {p0 : Int} {h : Hp} {Q : Sl → Hp → Prop} (hk : F76 p0 h Q) : callP Tryz.prog 76 [Value.int IntKind.u32 p0] (cSl) h Q :=
  spec_of (prem_of prog_ok dep_ok eqs_ok rfl (by kernel_rfl)) mix_ok ((e76 p0 h Q).mpr hk)
def a77 : Ann := { prom := 0, refs := [], dyn := 0, bcd := fun s => match s with | _ => none, eqs := memL eqL, cdc := cdcs, res := ress, pure := memL [49], pan := memL [48, 81] }
def n77 : An := (.seq (.reg []) (.seq (.reg []) (.seq (.seq (.reg []) (.block (.loop [(3, false, cI .u32), (10, false, cI .i64)] 33553576 (.seq (.reg []) (.seq (.cond .leaf .leaf) (.seq (.block (.seq (.reg []) (.seq (.reg []) (.block (.loop [(3, false, cI .u32), (16, false, cI .i64)] 16711816 (.seq (.reg []) (.seq (.cond .leaf .leaf) (.seq (.block (.seq (.reg []) (.reg []))) (.reg []))))))))) (.reg []))))))) (.seq (.reg []) .leaf))))
/-- consols/sum.Of -/
def F77 (p0 : Sl) (h : Hp) (Q : Int → Hp → Prop) : Prop :=
  loopP ((0 : Int), (0 : Int)) h fun (J1 : Int × Int → Hp → Prop) (z1 : Int × Int) (h1 : Hp) =>
    condP (decide (z1.snd < (↑p0.len : Int)))
      (idxP p0.a p0.len z1.snd fun (a1 : Addr) =>
        loadP cSl (a1.add (z1.snd.toNat * (1 : Nat))) h1 fun (s1 : Sl) =>
          loopP (z1.fst, (0 : Int)) h1 fun (J2 : Int × Int → Hp → Prop) (z2 : Int × Int) (h2 : Hp) =>
            condP (decide (z2.snd < (↑s1.len : Int)))
              (idxP s1.a s1.len z2.snd fun (a2 : Addr) =>
                loadP (cI IntKind.u8) (a2.add (z2.snd.toNat * (1 : Nat))) h2 fun (n1 : Int) =>
                  callP Tryz.prog (94 : Nat) [Value.int IntKind.u32 z2.fst, Value.int IntKind.u8 n1] (cI IntKind.u32) h2 fun (n2 : Int) (h3 : Hp) => J2 (n2, IntKind.i64.wrap (z2.snd + (1 : Int))) h3)
              (J1 (z2.fst, IntKind.i64.wrap (z1.snd + (1 : Int))) h2))
      (Q z1.fst h1)
theorem e77 (p0 : Sl) (h : Hp) (Q : Int → Hp → Prop) : fnD a77 Tryz.prog 77 n77 (cI .u32) [Value.slice p0.a p0.len p0.cap] h Q = F77 p0 h Q := by kernel_rfl
theorem c77 {p0 : Sl} {h : Hp} {Q : Int → Hp → Prop} (hk : F77 p0 h Q) : callP Tryz.prog 77 [Value.slice p0.a p0.len p0.cap] (cI .u32) h Q :=
  spec_of (prem_of prog_ok dep_ok eqs_ok rfl (by kernel_rfl)) mix_ok ((e77 p0 h Q).mpr hk)
def a92 : Ann := { prom := 0, refs := [], dyn := 0, bcd := fun s => match s with | _ => none, eqs := memL eqL, cdc := cdcs, res := ress, pure := memL [49], pan := memL [48, 81] }
def n92 : An := (.seq (.reg []) (.seq (.reg []) (.seq (.seq (.reg []) (.block (.loop [(3, false, cI .u32), (4, false, cI .i64)] 131064 (.seq (.seq (.reg []) (.cond .leaf .leaf)) (.seq (.block (.reg [])) (.reg [])))))) (.seq (.reg []) .leaf))))
/-- consols/consolsref4.Of -/
def F92 (p0 : Sl) (h : Hp) (Q : Int → Hp → Prop) : Prop :=
  loopP ((0 : Int), (0 : Int)) h fun (J1 : Int × Int → Hp → Prop) (z1 : Int × Int) (h1 : Hp) =>
    condP (decide (z1.snd < (↑p0.len : Int)))
      (idxP p0.a p0.len z1.snd fun (a1 : Addr) =>
        loadP (cI IntKind.u8) (a1.add (z1.snd.toNat * (1 : Nat))) h1 fun (n1 : Int) =>
          callP Tryz.prog (100 : Nat) [Value.int IntKind.u32 z1.fst, Value.int IntKind.u8 n1] (cI IntKind.u32) h1 fun (n2 : Int) (h2 : Hp) => J1 (n2, IntKind.i64.wrap (z1.snd + (1 : Int))) h2)
      (Q z1.fst h1)
theorem e92 (p0 : Sl) (h : Hp) (Q : Int → Hp → Prop) : fnD a92 Tryz.prog 92 n92 (cI .u32) [Value.slice p0.a p0.len p0.cap] h Q = F92 p0 h Q := by kernel_rfl
theorem c92 {p0 : Sl} {h : Hp} {Q : Int → Hp → Prop} (hk : F92 p0 h Q) : callP Tryz.prog 92 [Value.slice p0.a p0.len p0.cap] (cI .u32) h Q :=
  spec_of (prem_of prog_ok dep_ok eqs_ok rfl (by kernel_rfl)) mix_ok ((e92 p0 h Q).mpr hk)
def a75 : Ann := { prom := 0, refs := [], dyn := 0, bcd := fun s => match s with | _ => none, eqs := memL eqL, cdc := cdcs, res := ress, pure := memL [49], pan := memL [48, 81] }
def n75 : An := (.seq (.reg []) (.seq (.reg []) .leaf))
/-- bytes.Equal -/
def F75 (p0 : Sl) (p1 : Sl) (h : Hp) (Q : Bool → Hp → Prop) : Prop :=
 strP p0.a p0.len h fun (u1 : ByteArray) => strP p1.a p1.len h fun (u2 : ByteArray) => Q (strEq u1 u2) h
theorem e75 (p0 : Sl) (p1 : Sl) (h : Hp) (Q : Bool → Hp → Prop) : fnD a75 Tryz.prog 75 n75 (cB) [Value.slice p0.a p0.len p0.cap, Value.slice p1.a p1.len p1.cap] h Q = F75 p0 p1 h Q := by kernel_rfl
theorem c75 {p0 : Sl} {p1 : Sl} {h : Hp} {Q : Bool → Hp → Prop} (hk : F75 p0 p1 h Q) : callP Tryz.prog 75 [Value.slice p0.a p0.len p0.cap, Value.slice p1.a p1.len p1.cap] (cB) h Q :=
  spec_of (prem_of prog_ok dep_ok eqs_ok rfl (by kernel_rfl)) mix_ok ((e75 p0 p1 h Q).mpr hk)
def a45 : Ann := { prom := 0, refs := [], dyn := 0, bcd := fun s => match s with | _ => none, eqs := memL eqL, cdc := cdcs, res := ress, pure := memL [49], pan := memL [48, 81] }
def n45 : An := (.seq (.reg []) (.seq (.join [(11, false, cB)] 4088 (.reg []) (.cond (.seq (.reg []) .leaf) .leaf)) (.seq (.reg []) .leaf)))
/-- consols/flow.begins -/
def F45 (p0 : Sl) (h : Hp) (Q : Bool → Hp → Prop) : Prop :=
  joinP
    (fun (t1 : Bool) (h1 : Hp) =>
      condP t1 (Q false h1)
        (condP ((↑p0.len : Int) == (1 : Int)) (Q true h1)
          (idxP p0.a p0.len (1 : Int) fun (a1 : Addr) =>
            loadP (cI IntKind.u8) { block := a1.block, off := a1.off + (1 : Nat) : Addr } h1 fun (n1 : Int) =>
              condP (decide (n1 ≤ (80 : Int)))
                (idxP p0.a p0.len (1 : Int) fun (a2 : Addr) =>
                  loadP (cI IntKind.u8) { block := a2.block, off := a2.off + (1 : Nat) : Addr } h1 fun (n2 : Int) => Q (decide ((↑p0.len : Int) < IntKind.i64.wrap ((6 : Int) + IntKind.i64.wrap n2))) h1)
                (Q false h1))))
    fun (J1 : Bool → Hp → Prop) => condP ((↑p0.len : Int) == (0 : Int)) (J1 true h) (idxP p0.a p0.len (0 : Int) fun (a3 : Addr) => loadP (cI IntKind.u8) (a3.add (0 : Nat)) h fun (n3 : Int) => J1 (n3 != (197 : Int)) h)
theorem e45 (p0 : Sl) (h : Hp) (Q : Bool → Hp → Prop) : fnD a45 Tryz.prog 45 n45 (cB) [Value.slice p0.a p0.len p0.cap] h Q = F45 p0 h Q := by kernel_rfl
theorem c45 {p0 : Sl} {h : Hp} {Q : Bool → Hp → Prop} (hk : F45 p0 h Q) : callP Tryz.prog 45 [Value.slice p0.a p0.len p0.cap] (cB) h Q :=
  spec_of (prem_of prog_ok dep_ok eqs_ok rfl (by kernel_rfl)) mix_ok ((e45 p0 h Q).mpr hk)
def a57 : Ann := { prom := 0, refs := [], dyn := 0, bcd := fun s => match s with | _ => none, eqs := memL eqL, cdc := cdcs, res := ress, pure := memL [49], pan := memL [48, 81] }
def n57 : An := (.seq (.reg []) (.seq (.join [(11, false, cB)] 4088 (.reg []) (.cond (.seq (.reg []) .leaf) .leaf)) (.seq (.reg []) .leaf)))
/-- consols/consolsref7.may -/
def F57 (p0 : Sl) (h : Hp) (Q : Bool → Hp → Prop) : Prop :=
  joinP
    (fun (t1 : Bool) (h1 : Hp) =>
      condP t1 (Q false h1)
        (condP ((↑p0.len : Int) == (1 : Int)) (Q true h1)
          (idxP p0.a p0.len (1 : Int) fun (a1 : Addr) =>
            loadP (cI IntKind.u8) { block := a1.block, off := a1.off + (1 : Nat) : Addr } h1 fun (n1 : Int) =>
              condP (decide (IntKind.i64.wrap n1 ≤ (80 : Int)))
                (idxP p0.a p0.len (1 : Int) fun (a2 : Addr) =>
                  loadP (cI IntKind.u8) { block := a2.block, off := a2.off + (1 : Nat) : Addr } h1 fun (n2 : Int) => Q (decide ((↑p0.len : Int) < IntKind.i64.wrap ((6 : Int) + IntKind.i64.wrap n2))) h1)
                (Q false h1))))
    fun (J1 : Bool → Hp → Prop) => condP ((↑p0.len : Int) == (0 : Int)) (J1 true h) (idxP p0.a p0.len (0 : Int) fun (a3 : Addr) => loadP (cI IntKind.u8) (a3.add (0 : Nat)) h fun (n3 : Int) => J1 (n3 != (197 : Int)) h)
theorem e57 (p0 : Sl) (h : Hp) (Q : Bool → Hp → Prop) : fnD a57 Tryz.prog 57 n57 (cB) [Value.slice p0.a p0.len p0.cap] h Q = F57 p0 h Q := by kernel_rfl
theorem c57 {p0 : Sl} {h : Hp} {Q : Bool → Hp → Prop} (hk : F57 p0 h Q) : callP Tryz.prog 57 [Value.slice p0.a p0.len p0.cap] (cB) h Q :=
  spec_of (prem_of prog_ok dep_ok eqs_ok rfl (by kernel_rfl)) mix_ok ((e57 p0 h Q).mpr hk)
def a99 : Ann := { prom := 0, refs := [], dyn := 0, bcd := fun s => match s with | _ => none, eqs := memL eqL, cdc := cdcs, res := ress, pure := memL [49], pan := memL [48, 81] }
def n99 : An := (.seq (.reg []) (.seq (.seq (.reg []) (.cond (.seq (.reg []) .leaf) .leaf)) (.seq (.reg []) .leaf)))
/-- consols/consolsref3.zig -/
def F99 (p0 : Int) (h : Hp) (Q : Int → Hp → Prop) : Prop :=
  condP (decide (p0 < (0 : Int))) (Q (IntKind.u64.wrap (IntKind.u64.wrap ((2 : Int) * IntKind.u64.wrap (IntKind.i64.wrap ((0 : Int) - IntKind.i64.wrap (p0 + (1 : Int))))) + (1 : Int))) h)
    (Q (IntKind.u64.wrap ((2 : Int) * IntKind.u64.wrap p0)) h)
theorem e99 (p0 : Int) (h : Hp) (Q : Int → Hp → Prop) : fnD a99 Tryz.prog 99 n99 (cI .u64) [Value.int IntKind.i64 p0] h Q = F99 p0 h Q := by kernel_rfl
theorem c99 {p0 : Int} {h : Hp} {Q : Int → Hp → Prop} (hk : F99 p0 h Q) : callP Tryz.prog 99 [Value.int IntKind.i64 p0] (cI .u64) h Q :=
  spec_of (prem_of prog_ok dep_ok eqs_ok rfl (by kernel_rfl)) mix_ok ((e99 p0 h Q).mpr hk)
def a97 : Ann := { prom := 0, refs := [], dyn := 0, bcd := fun s => match s with | _ => none, eqs := memL eqL, cdc := cdcs, res := ress, pure := memL [49], pan := memL [48, 81] }
def n97 : An := (.seq (.reg []) (.join [] 224 (.seq (.reg []) (.cond .regX .leaf)) (.seq (.seq .regX (.seq (.reg []) (.cond .regX .leaf))) (.seq (.reg []) .leaf))))
/-- slices.Grow[[]byte,byte] -/
def F97 (p0 : Sl) (p1 : Int) (h : Hp) (Q : Sl → Hp → Prop) : Prop :=
  joinP
    (fun (u1 : PUnit) (h1 : Hp) =>
      condP (decide (IntKind.i64.wrap (p1 - IntKind.i64.wrap ((↑p0.cap : Int) - (↑p0.len : Int))) > (0 : Int)))
        (cutP p0.len p0.cap none (some (↑p0.cap : Int)) fun (k1 k2 : Nat) =>
          growP (cI IntKind.u8) (0 : Int) (5 : Nat) (1 : Nat) (cutA p0.a k1 p0.cap (1 : Nat)) (k2 - k1) (p0.cap - k1) (IntKind.i64.wrap (p1 - IntKind.i64.wrap ((↑p0.cap : Int) - (↑p0.len : Int)))) h1
            fun (p1 : Option Addr) (k3 k4 : Nat) (h2 : Hp) => cutP k3 k4 none (some (↑p0.len : Int)) fun (k5 k6 : Nat) => Q { a := cutA p1 k5 k4 (1 : Nat), len := k6 - k5, cap := k4 - k5 : Sl } h2)
        (Q p0 h1))
    fun (J1 : PUnit → Hp → Prop) => condP (decide (p1 < (0 : Int))) False (J1 PUnit.unit h)
theorem e97 (p0 : Sl) (p1 : Int) (h : Hp) (Q : Sl → Hp → Prop) : fnD a97 Tryz.prog 97 n97 (cSl) [Value.slice p0.a p0.len p0.cap, Value.int IntKind.i64 p1] h Q = F97 p0 p1 h Q := by kernel_rfl
theorem c97 {p0 : Sl} {p1 : Int} {h : Hp} {Q : Sl → Hp → Prop} (hk : F97 p0 p1 h Q) : callP Tryz.prog 97 [Value.slice p0.a p0.len p0.cap, Value.int IntKind.i64 p1] (cSl) h Q :=
  spec_of (prem_of prog_ok dep_ok eqs_ok rfl (by kernel_rfl)) mix_ok ((e97 p0 p1 h Q).mpr hk)
def a94 : Ann := { prom := 0, refs := [], dyn := 0, bcd := fun s => match s with | _ => none, eqs := memL eqL, cdc := cdcs, res := ress, pure := memL [49], pan := memL [48, 81] }
def n94 : An := (.seq (.reg []) (.seq (.reg []) (.seq (.reg []) (.seq (.reg []) .leaf))))
/-- consols/sum.Next -/
def F94 (p0 : Int) (p1 : Int) (h : Hp) (Q : Int → Hp → Prop) : Prop :=
  (65521 : Int) ≠ (0 : Int) ∧
    (0 : Int) ≤ (16 : Int) ∧
      (65521 : Int) ≠ (0 : Int) ∧
        (0 : Int) ≤ (16 : Int) ∧
          Q
            (orI IntKind.u32
              (shlI IntKind.u32 ((IntKind.u32.wrap (shrI IntKind.u32 p0 (16 : Int) + (IntKind.u32.wrap (IntKind.u32.wrap (andI IntKind.u32 p0 (65535 : Int) + IntKind.u32.wrap p1) + (1 : Int))).tmod (65521 : Int))).tmod (65521 : Int))
                (16 : Int))
              ((IntKind.u32.wrap (IntKind.u32.wrap (andI IntKind.u32 p0 (65535 : Int) + IntKind.u32.wrap p1) + (1 : Int))).tmod (65521 : Int)))
            h
theorem e94 (p0 : Int) (p1 : Int) (h : Hp) (Q : Int → Hp → Prop) : fnD a94 Tryz.prog 94 n94 (cI .u32) [Value.int IntKind.u32 p0, Value.int IntKind.u8 p1] h Q = F94 p0 p1 h Q := by kernel_rfl
theorem c94 {p0 : Int} {p1 : Int} {h : Hp} {Q : Int → Hp → Prop} (hk : F94 p0 p1 h Q) : callP Tryz.prog 94 [Value.int IntKind.u32 p0, Value.int IntKind.u8 p1] (cI .u32) h Q :=
  spec_of (prem_of prog_ok dep_ok eqs_ok rfl (by kernel_rfl)) mix_ok ((e94 p0 p1 h Q).mpr hk)
def a100 : Ann := { prom := 0, refs := [], dyn := 0, bcd := fun s => match s with | _ => none, eqs := memL eqL, cdc := cdcs, res := ress, pure := memL [49], pan := memL [48, 81] }
def n100 : An := (.seq (.reg []) (.seq (.reg []) (.seq (.reg []) (.seq (.reg []) .leaf))))
/-- consols/consolsref4.Next -/
def F100 (p0 : Int) (p1 : Int) (h : Hp) (Q : Int → Hp → Prop) : Prop :=
  (65521 : Int) ≠ (0 : Int) ∧
    (0 : Int) ≤ (16 : Int) ∧
      (65521 : Int) ≠ (0 : Int) ∧
        (0 : Int) ≤ (16 : Int) ∧
          Q
            (orI IntKind.u32
              (shlI IntKind.u32 ((IntKind.u32.wrap (shrI IntKind.u32 p0 (16 : Int) + (IntKind.u32.wrap (IntKind.u32.wrap (andI IntKind.u32 p0 (65535 : Int) + IntKind.u32.wrap p1) + (1 : Int))).tmod (65521 : Int))).tmod (65521 : Int))
                (16 : Int))
              ((IntKind.u32.wrap (IntKind.u32.wrap (andI IntKind.u32 p0 (65535 : Int) + IntKind.u32.wrap p1) + (1 : Int))).tmod (65521 : Int)))
            h
theorem e100 (p0 : Int) (p1 : Int) (h : Hp) (Q : Int → Hp → Prop) : fnD a100 Tryz.prog 100 n100 (cI .u32) [Value.int IntKind.u32 p0, Value.int IntKind.u8 p1] h Q = F100 p0 p1 h Q := by kernel_rfl
theorem c100 {p0 : Int} {p1 : Int} {h : Hp} {Q : Int → Hp → Prop} (hk : F100 p0 p1 h Q) : callP Tryz.prog 100 [Value.int IntKind.u32 p0, Value.int IntKind.u8 p1] (cI .u32) h Q :=
  spec_of (prem_of prog_ok dep_ok eqs_ok rfl (by kernel_rfl)) mix_ok ((e100 p0 p1 h Q).mpr hk)
end Go.Proofs.YtmkgcdgpokidjaaGreat
