/- What the functions say, each as one statement: made by program (drive.py). -/
import Derived.Test.YtmkgcdgpokidjaaTy
set_option linter.unusedVariables false
set_option maxRecDepth 20000
namespace Go.Proofs.Ytmkgcdgpokidjaa
open Go.Eng
def a42 : Ann := { prom := 0, refs := [], dyn := 0, bcd := fun s => match s with | _ => none, eqs := memL eqL, cdc := cdcs, res := ress, pure := memL [97], pan := memL [122, 137] }
def n42 : An := (.seq (.reg []) (.seq (.join [(8, false, cB)] 504 (.reg []) (.cond (.seq (.reg []) .leaf) .leaf)) (.seq (.reg []) .leaf)))
/-- consols/mail.New -/
def F42 (p0 : Int) (h : Hp) (Q : Option Addr → Hp → Prop) : Prop :=
  joinP
    (fun (t1 : Bool) (h1 : Hp) =>
      condP t1 (Q none h1)
        (makeChP p0 (24 : Nat)
          (allocP (Obj.chan p0.toNat { toList := [] : Array Value } false (0 : Nat) (0 : Nat) false) h1 fun (k1 : Nat) (h2 : Hp) =>
            allocP (Obj.cells { toList := [Value.chan (some k1), Value.bool false] : Array Value } (136 : Nat)) h2 fun (k2 : Nat) (h3 : Hp) => Q (some { block := k2, off := (0 : Nat) : Addr }) h3)))
    fun (J1 : Bool → Hp → Prop) => condP (decide (p0 < (1 : Int))) (J1 true h) (J1 (decide (p0 > (256 : Int))) h)
theorem e42 (p0 : Int) (h : Hp) (Q : Option Addr → Hp → Prop) : fnD a42 Try.prog 42 n42 (cP) [Value.int IntKind.i64 p0] h Q = F42 p0 h Q := by kernel_rfl
theorem c42 {p0 : Int} {h : Hp} {Q : Option Addr → Hp → Prop} (hk : F42 p0 h Q) : callP Try.prog 42 [Value.int IntKind.i64 p0] (cP) h Q :=
  spec_of (prem_of prog_ok dep_ok eqs_ok rfl (by kernel_rfl)) mix_ok ((e42 p0 h Q).mpr hk)
def a43 : Ann := { prom := 0, refs := [], dyn := 0, bcd := fun s => match s with | _ => none, eqs := memL eqL, cdc := cdcs, res := ress, pure := memL [97], pan := memL [122, 137] }
def n43 : An := (.seq (.reg []) (.seq (.join [(12, false, cB)] 8160 (.reg []) (.cond (.seq (.reg []) .leaf) .leaf)) (.seq (.seq (.reg []) (.reg [])) (.seq (.reg []) (.block (.cond (.seq (.reg []) .leaf) (.seq (.reg []) .leaf)))))))
/-- (*consols/mail.Box).Put -/
def F43 (p0 : Option Addr) (p1 : Sl) (h : Hp) (Q : Bool → Hp → Prop) : Prop :=
  joinP
    (fun (t1 : Bool) (h1 : Hp) =>
      condP t1 (Q false h1)
        (nilP p0 fun (a1 : Addr) =>
          loadP cC (a1.add (0 : Nat)) h1 fun (p1_1 : Option Nat) =>
            callP Try.prog (117 : Nat) [Value.slice p1.a p1.len p1.cap] cSl h1 fun (s1 : Sl) (h2 : Hp) => sendP p1_1 (Value.slice s1.a s1.len s1.cap) h2 (Q false h2) fun (h3 : Hp) => Q true h3))
    fun (J1 : Bool → Hp → Prop) => condP p0.isNone (J1 true h) (nilP p0 fun (a2 : Addr) => loadP cB { block := a2.block, off := a2.off + (1 : Nat) : Addr } h fun (t2 : Bool) => J1 t2 h)
theorem e43 (p0 : Option Addr) (p1 : Sl) (h : Hp) (Q : Bool → Hp → Prop) : fnD a43 Try.prog 43 n43 (cB) [Value.pointer p0, Value.slice p1.a p1.len p1.cap] h Q = F43 p0 p1 h Q := by kernel_rfl
theorem c43 {p0 : Option Addr} {p1 : Sl} {h : Hp} {Q : Bool → Hp → Prop} (hk : F43 p0 p1 h Q) : callP Try.prog 43 [Value.pointer p0, Value.slice p1.a p1.len p1.cap] (cB) h Q :=
  spec_of (prem_of prog_ok dep_ok eqs_ok rfl (by kernel_rfl)) mix_ok ((e43 p0 p1 h Q).mpr hk)
def a44 : Ann := { prom := 0, refs := [], dyn := 0, bcd := fun s => match s with | _ => none, eqs := memL eqL, cdc := cdcs, res := ress, pure := memL [97], pan := memL [122, 137] }
def n44 : An := (.seq (.reg []) (.cond (.reg []) .leaf))
/-- (*consols/mail.Box).Shut -/
def F44 (p0 : Option Addr) (h : Hp) (Q : Unit → Hp → Prop) : Prop :=
 condP (!p0.isNone) (nilP p0 fun (a1 : Addr) => storeP cB { block := a1.block, off := a1.off + (1 : Nat) : Addr } true h fun (h1 : Hp) => Q PUnit.unit h1) (Q PUnit.unit h)
theorem e44 (p0 : Option Addr) (h : Hp) (Q : Unit → Hp → Prop) : fnD a44 Try.prog 44 n44 (tupC []) [Value.pointer p0] h Q = F44 p0 h Q := by kernel_rfl
theorem c44 {p0 : Option Addr} {h : Hp} {Q : Unit → Hp → Prop} (hk : F44 p0 h Q) : callP Try.prog 44 [Value.pointer p0] (tupC []) h Q :=
  spec_of (prem_of prog_ok dep_ok eqs_ok rfl (by kernel_rfl)) mix_ok ((e44 p0 h Q).mpr hk)
def a45 : Ann := { prom := 0, refs := [], dyn := 0, bcd := fun s => match s with | _ => none, eqs := memL eqL, cdc := cdcs, res := ress, pure := memL [97], pan := memL [122, 137] }
def n45 : An := (.seq (.reg []) (.seq (.seq (.reg []) (.cond (.seq (.reg []) .leaf) .leaf)) (.seq (.reg []) (.seq (.reg []) (.block (.cond (.seq (.reg []) (.seq (.reg []) .leaf)) (.seq (.reg []) .leaf)))))))
/-- (*consols/mail.Box).Take -/
def F45 (p0 : Option Addr) (h : Hp) (Q : Sl × Bool → Hp → Prop) : Prop :=
  condP p0.isNone (Q ({ a := none, len := (0 : Nat), cap := (0 : Nat) : Sl }, false) h)
    (nilP p0 fun (a1 : Addr) => loadP cC (a1.add (0 : Nat)) h fun (p1 : Option Nat) => recvP cSl p1 h (Q ({ a := none, len := (0 : Nat), cap := (0 : Nat) : Sl }, false) h) fun (s1 : Sl) (h1 : Hp) => Q (s1, true) h1)
theorem e45 (p0 : Option Addr) (h : Hp) (Q : Sl × Bool → Hp → Prop) : fnD a45 Try.prog 45 n45 (tupC [cSl, cB]) [Value.pointer p0] h Q = F45 p0 h Q := by kernel_rfl
theorem c45 {p0 : Option Addr} {h : Hp} {Q : Sl × Bool → Hp → Prop} (hk : F45 p0 h Q) : callP Try.prog 45 [Value.pointer p0] (tupC [cSl, cB]) h Q :=
  spec_of (prem_of prog_ok dep_ok eqs_ok rfl (by kernel_rfl)) mix_ok ((e45 p0 h Q).mpr hk)
def a46 : Ann := { prom := 0, refs := [], dyn := 0, bcd := fun s => match s with | _ => none, eqs := memL eqL, cdc := cdcs, res := ress, pure := memL [97], pan := memL [122, 137] }
def n46 : An := (.seq (.reg []) (.seq (.reg []) (.seq (.reg []) (.seq (.reg []) (.seq (.reg []) .leaf)))))
/-- consols/consolslaw8.known -/
def F46  (h : Hp) (Q : Bool → Hp → Prop) : Prop :=
  callP Try.prog (42 : Nat) [Value.int IntKind.i64 (1 : Int)] cP h fun (p1 : Option Addr) (h1 : Hp) =>
    allocP (Obj.cells { toList := [Value.int IntKind.u8 (97 : Int)] : Array Value } (5 : Nat)) h1 fun (k1 : Nat) (h2 : Hp) =>
      markP { block := k1, off := (0 : Nat) : Addr } h2 fun (h3 : Hp) =>
        callP Try.prog (43 : Nat) [Value.pointer p1, Value.slice (some { block := k1, off := (0 : Nat) : Addr }) (1 : Nat) (1 : Nat)] cB h3 fun (t1 : Bool) (h4 : Hp) =>
          allocP (Obj.cells { toList := [Value.int IntKind.u8 (98 : Int)] : Array Value } (5 : Nat)) h4 fun (k2 : Nat) (h5 : Hp) =>
            markP { block := k2, off := (0 : Nat) : Addr } h5 fun (h6 : Hp) =>
              callP Try.prog (43 : Nat) [Value.pointer p1, Value.slice (some { block := k2, off := (0 : Nat) : Addr }) (1 : Nat) (1 : Nat)] cB h6 fun (t2 : Bool) (h7 : Hp) =>
                callP Try.prog (45 : Nat) [Value.pointer p1] (tupC [cSl, cB]) h7 fun (z1 : Sl × Bool) (h8 : Hp) =>
                  condP t1
                    (condP (!t2)
                      (condP z1.snd
                        (strP z1.fst.a z1.fst.len h8 fun (u1 : ByteArray) =>
                          condP (strEq u1 { data := #[(97 : UInt8)] : ByteArray }) (callP Try.prog (42 : Nat) [Value.int IntKind.i64 (0 : Int)] cP h8 fun (p2 : Option Addr) (h9 : Hp) => Q p2.isNone h9) (Q false h8))
                        (Q false h8))
                      (Q false h8))
                    (Q false h8)
theorem e46  (h : Hp) (Q : Bool → Hp → Prop) : fnD a46 Try.prog 46 n46 (cB) [] h Q = F46  h Q := by kernel_rfl
theorem c46  {h : Hp} {Q : Bool → Hp → Prop} (hk : F46  h Q) : callP Try.prog 46 [] (cB) h Q :=
  spec_of (prem_of prog_ok dep_ok eqs_ok rfl (by kernel_rfl)) mix_ok ((e46  h Q).mpr hk)
def a47 : Ann := { prom := 0, refs := [], dyn := 0, bcd := fun s => match s with | _ => none, eqs := memL eqL, cdc := cdcs, res := ress, pure := memL [97], pan := memL [122, 137] }
def n47 : An := (.seq (.reg []) (.seq (.seq (.reg []) (.block (.loop [(11, false, cI .i64)] 33552892 (.seq (.reg []) (.seq (.cond .leaf .leaf) (.seq (.block (.seq (.reg []) (.seq (.reg []) (.seq (.reg []) (.cond (.seq (.reg []) .leaf) .leaf))))) (.reg []))))))) (.seq (.reg []) .leaf)))
/-- consols/mail.First -/
def F47 (p0 : Sl) (h : Hp) (Q : Sl × Int × Bool → Hp → Prop) : Prop :=
  loopP (0 : Int) h fun (J1 : Int → Hp → Prop) (n1 : Int) (h1 : Hp) =>
    condP (decide (n1 < (↑p0.len : Int)))
      (idxP p0.a p0.len n1 fun (a1 : Addr) =>
        loadP cP (a1.add (n1.toNat * (1 : Nat))) h1 fun (p1 : Option Addr) =>
          callP Try.prog (45 : Nat) [Value.pointer p1] (tupC [cSl, cB]) h1 fun (z1 : Sl × Bool) (h2 : Hp) => condP z1.snd (Q (z1.fst, n1, true) h2) (J1 (IntKind.i64.wrap (n1 + (1 : Int))) h2))
      (Q ({ a := none, len := (0 : Nat), cap := (0 : Nat) : Sl }, (0 : Int), false) h1)
theorem e47 (p0 : Sl) (h : Hp) (Q : Sl × Int × Bool → Hp → Prop) : fnD a47 Try.prog 47 n47 (tupC [cSl, cI .i64, cB]) [Value.slice p0.a p0.len p0.cap] h Q = F47 p0 h Q := by kernel_rfl
theorem c47 {p0 : Sl} {h : Hp} {Q : Sl × Int × Bool → Hp → Prop} (hk : F47 p0 h Q) : callP Try.prog 47 [Value.slice p0.a p0.len p0.cap] (tupC [cSl, cI .i64, cB]) h Q :=
  spec_of (prem_of prog_ok dep_ok eqs_ok rfl (by kernel_rfl)) mix_ok ((e47 p0 h Q).mpr hk)
def a48 : Ann := { prom := 0, refs := [], dyn := 0, bcd := fun s => match s with | _ => none, eqs := memL eqL, cdc := cdcs, res := ress, pure := memL [97], pan := memL [122, 137] }
def n48 : An := (.seq (.reg []) (.seq (.reg []) .leaf))
/-- consols/keep.New -/
def F48  (h : Hp) (Q : Option Addr → Hp → Prop) : Prop :=
  allocP (Obj.cells { toList := [Value.slice none (0 : Nat) (0 : Nat), Value.int IntKind.i64 (1 : Int)] : Array Value } (139 : Nat)) h fun (k1 : Nat) (h1 : Hp) => Q (some { block := k1, off := (0 : Nat) : Addr }) h1
theorem e48  (h : Hp) (Q : Option Addr → Hp → Prop) : fnD a48 Try.prog 48 n48 (cP) [] h Q = F48  h Q := by kernel_rfl
theorem c48  {h : Hp} {Q : Option Addr → Hp → Prop} (hk : F48  h Q) : callP Try.prog 48 [] (cP) h Q :=
  spec_of (prem_of prog_ok dep_ok eqs_ok rfl (by kernel_rfl)) mix_ok ((e48  h Q).mpr hk)
def a49 : Ann := { prom := 56, refs := [], dyn := 0, bcd := fun s => match s with | 3 => some (cMsg) | 4 => some (cFrame) | 5 => some (cFrame) | _ => none, eqs := memL eqL, cdc := cdcs, res := ress, pure := memL [97], pan := memL [122, 137] }
def n49 : An := (.seq (.reg []) (.seq (.seq (.reg []) (.cond (.seq (.reg []) .leaf) .leaf)) (.seq (.reg [(0, []), (1, []), (2, []), (4, []), (6, []), (3, []), (5, []), (7, [])]) (.seq (.reg []) (.seq (.reg [(0, []), (1, []), (2, []), (3, []), (5, []), (4, []), (6, []), (7, []), (8, []), (9, []), (10, [])]) (.join [] 70364449210368 (.seq (.reg []) (.cond (.reg []) .leaf)) (.seq (.reg []) .leaf)))))))
/-- (*consols/keep.Keep).Add -/
def F49 (p0 : Option Addr) (p1 : Msg) (h : Hp) (Q : Frame → Hp → Prop) : Prop :=
  condP p0.isNone (Q { Seq := (0 : Int), Msg_Kind := (0 : Int), Msg_F_0 := (0 : Int), Msg_F_1 := (0 : Int), Msg_F_2 := (0 : Int), Msg_F_3 := (0 : Int), Msg_F_4 := (0 : Int), Msg_F_5 := (0 : Int) : Frame } h)
    (nilP p0 fun (a1 : Addr) =>
      loadP (cI IntKind.i64) { block := a1.block, off := a1.off + (1 : Nat) : Addr } h fun (n1 : Int) =>
        nilP p0 fun (a2 : Addr) =>
          loadP (cI IntKind.i64) { block := a2.block, off := a2.off + (1 : Nat) : Addr } h fun (n2 : Int) =>
            nilP p0 fun (a3 : Addr) =>
              storeP (cI IntKind.i64) { block := a3.block, off := a3.off + (1 : Nat) : Addr } (IntKind.i64.wrap (n2 + (1 : Int))) h fun (h1 : Hp) =>
                nilP p0 fun (a4 : Addr) =>
                  loadP cSl (a4.add (0 : Nat)) h1 fun (s1 : Sl) =>
                    allocP
                      (Obj.cells
                        {
                          toList :=
                            [Value.int IntKind.i64 n1, Value.int IntKind.i64 p1.Kind, Value.int IntKind.i64 p1.F_0, Value.int IntKind.i64 p1.F_1, Value.int IntKind.i64 p1.F_2, Value.int IntKind.i64 p1.F_3, Value.int IntKind.i64 p1.F_4,
                              Value.int IntKind.i64 p1.F_5] :
                          Array Value }
                        (48 : Nat))
                      h1 fun (k1 : Nat) (h2 : Hp) =>
                      appendP cFrame (48 : Nat) (64 : Nat) s1.a s1.len s1.cap (some { block := k1, off := (0 : Nat) : Addr }) (1 : Nat) h2 fun (p1_1 : Option Addr) (k2 k3 : Nat) (h3 : Hp) =>
                        nilP p0 fun (a5 : Addr) =>
                          storeP cSl (a5.add (0 : Nat)) { a := p1_1, len := k2, cap := k3 : Sl } h3 fun (h4 : Hp) =>
                            joinP (fun (u1 : PUnit) (h5 : Hp) => Q { Seq := n1, Msg_Kind := p1.Kind, Msg_F_0 := p1.F_0, Msg_F_1 := p1.F_1, Msg_F_2 := p1.F_2, Msg_F_3 := p1.F_3, Msg_F_4 := p1.F_4, Msg_F_5 := p1.F_5 : Frame } h5)
                              fun (J1 : PUnit → Hp → Prop) =>
                              nilP p0 fun (a6 : Addr) =>
                                loadP cSl (a6.add (0 : Nat)) h4 fun (s2 : Sl) =>
                                  condP (decide ((↑s2.len : Int) > (64 : Int)))
                                    (nilP p0 fun (a7 : Addr) =>
                                      loadP cSl (a7.add (0 : Nat)) h4 fun (s3 : Sl) =>
                                        callP Try.prog (118 : Nat) [Value.slice s3.a s3.len s3.cap, Value.int IntKind.i64 (0 : Int), Value.int IntKind.i64 (1 : Int)] cSl h4 fun (s4 : Sl) (h6 : Hp) =>
                                          nilP p0 fun (a8 : Addr) => storeP cSl (a8.add (0 : Nat)) s4 h6 fun (h7 : Hp) => J1 PUnit.unit h7)
                                    (J1 PUnit.unit h4))
theorem e49 (p0 : Option Addr) (p1 : Msg) (h : Hp) (Q : Frame → Hp → Prop) : fnD a49 Try.prog 49 n49 (cFrame) [Value.pointer p0, cMsg.enc p1] h Q = F49 p0 p1 h Q := by kernel_rfl
theorem c49 {p0 : Option Addr} {p1 : Msg} {h : Hp} {Q : Frame → Hp → Prop} (hk : F49 p0 p1 h Q) : callP Try.prog 49 [Value.pointer p0, cMsg.enc p1] (cFrame) h Q :=
  spec_of (prem_of prog_ok dep_ok eqs_ok rfl (by kernel_rfl)) mix_ok ((e49 p0 p1 h Q).mpr hk)
def a50 : Ann := { prom := 56, refs := [], dyn := 0, bcd := fun s => match s with | 3 => some (cMsg) | 4 => some (cFrame) | 5 => some (cFrame) | _ => none, eqs := memL eqL, cdc := cdcs, res := ress, pure := memL [97], pan := memL [122, 137] }
def n50 : An := (.seq (.reg []) (.seq (.reg [(0, []), (2, []), (4, []), (1, []), (3, []), (5, [])]) (.seq (.reg [(0, []), (1, []), (2, []), (3, []), (5, []), (4, []), (6, []), (7, []), (8, []), (9, []), (10, [])]) (.seq (.reg []) .leaf))))
/-- (*consols/consolsref9.Keep).Add -/
def F50 (p0 : Option Addr) (p1 : Msg) (h : Hp) (Q : Frame → Hp → Prop) : Prop :=
  callP Try.prog (55 : Nat) [Value.pointer p0] (cI IntKind.i64) h fun (n1 : Int) (h1 : Hp) =>
    nilP p0 fun (a1 : Addr) =>
      loadP cSl (a1.add (0 : Nat)) h1 fun (s1 : Sl) =>
        allocP
          (Obj.cells
            {
              toList :=
                [Value.int IntKind.i64 n1, Value.int IntKind.i64 p1.Kind, Value.int IntKind.i64 p1.F_0, Value.int IntKind.i64 p1.F_1, Value.int IntKind.i64 p1.F_2, Value.int IntKind.i64 p1.F_3, Value.int IntKind.i64 p1.F_4,
                  Value.int IntKind.i64 p1.F_5] :
              Array Value }
            (48 : Nat))
          h1 fun (k1 : Nat) (h2 : Hp) =>
          appendP cFrame (48 : Nat) (64 : Nat) s1.a s1.len s1.cap (some { block := k1, off := (0 : Nat) : Addr }) (1 : Nat) h2 fun (p1_1 : Option Addr) (k2 k3 : Nat) (h3 : Hp) =>
            nilP p0 fun (a2 : Addr) =>
              storeP cSl (a2.add (0 : Nat)) { a := p1_1, len := k2, cap := k3 : Sl } h3 fun (h4 : Hp) =>
                Q { Seq := n1, Msg_Kind := p1.Kind, Msg_F_0 := p1.F_0, Msg_F_1 := p1.F_1, Msg_F_2 := p1.F_2, Msg_F_3 := p1.F_3, Msg_F_4 := p1.F_4, Msg_F_5 := p1.F_5 : Frame } h4
theorem e50 (p0 : Option Addr) (p1 : Msg) (h : Hp) (Q : Frame → Hp → Prop) : fnD a50 Try.prog 50 n50 (cFrame) [Value.pointer p0, cMsg.enc p1] h Q = F50 p0 p1 h Q := by kernel_rfl
theorem c50 {p0 : Option Addr} {p1 : Msg} {h : Hp} {Q : Frame → Hp → Prop} (hk : F50 p0 p1 h Q) : callP Try.prog 50 [Value.pointer p0, cMsg.enc p1] (cFrame) h Q :=
  spec_of (prem_of prog_ok dep_ok eqs_ok rfl (by kernel_rfl)) mix_ok ((e50 p0 p1 h Q).mpr hk)
def a51 : Ann := { prom := 0, refs := [], dyn := 0, bcd := fun s => match s with | _ => none, eqs := memL eqL, cdc := cdcs, res := ress, pure := memL [97], pan := memL [122, 137] }
def n51 : An := (.seq (.reg []) (.seq (.join [(33, false, cB)] 17179869120 (.reg [(0, []), (1, []), (2, []), (3, []), (4, []), (5, []), (6, []), (7, []), (8, []), (9, []), (10, []), (11, []), (12, []), (13, []), (14, []), (15, []), (16, []), (17, []), (19, []), (21, []), (22, []), (23, []), (18, []), (20, []), (24, []), (25, []), (26, []), (27, [])]) (.cond (.seq (.reg []) .leaf) .leaf)) (.seq (.reg [(0, []), (1, []), (2, []), (4, []), (5, []), (6, []), (9, []), (10, []), (11, []), (13, []), (3, []), (7, []), (8, []), (12, []), (14, []), (15, []), (16, []), (17, []), (18, []), (19, [])]) .leaf)))
/-- (*consols/keep.Keep).From -/
def F51 (p0 : Option Addr) (p1 : Int) (h : Hp) (Q : Sl × Bool → Hp → Prop) : Prop :=
  joinP
    (fun (t1 : Bool) (h1 : Hp) =>
      condP t1 (Q ({ a := none, len := (0 : Nat), cap := (0 : Nat) : Sl }, false) h1)
        (nilP p0 fun (a1 : Addr) =>
          nilP p0 fun (a2 : Addr) =>
            nilP p0 fun (a3 : Addr) =>
              loadP cSl (a1.add (0 : Nat)) h1 fun (s1 : Sl) =>
                loadP cSl (a2.add (0 : Nat)) h1 fun (s2 : Sl) =>
                  loadP (cI IntKind.i64) { block := a3.block, off := a3.off + (1 : Nat) : Addr } h1 fun (n1 : Int) =>
                    cutP s1.len s1.cap (some (IntKind.i64.wrap ((↑s2.len : Int) - IntKind.i64.wrap (n1 - p1)))) none fun (k1 k2 : Nat) =>
                      callP Try.prog (119 : Nat) [Value.slice (cutA s1.a k1 s1.cap (8 : Nat)) (k2 - k1) (s1.cap - k1)] cSl h1 fun (s3 : Sl) (h2 : Hp) => Q (s3, true) h2))
    fun (J1 : Bool → Hp → Prop) =>
    condP p0.isNone (J1 true h)
      (condP (decide (p1 < (1 : Int))) (J1 true h)
        (nilP p0 fun (a4 : Addr) =>
          loadP (cI IntKind.i64) { block := a4.block, off := a4.off + (1 : Nat) : Addr } h fun (n2 : Int) =>
            condP (decide (p1 > n2)) (J1 true h)
              (nilP p0 fun (a5 : Addr) =>
                nilP p0 fun (a6 : Addr) =>
                  loadP (cI IntKind.i64) { block := a5.block, off := a5.off + (1 : Nat) : Addr } h fun (n3 : Int) => loadP cSl (a6.add (0 : Nat)) h fun (s4 : Sl) => J1 (decide (IntKind.i64.wrap (n3 - p1) > (↑s4.len : Int))) h)))
theorem e51 (p0 : Option Addr) (p1 : Int) (h : Hp) (Q : Sl × Bool → Hp → Prop) : fnD a51 Try.prog 51 n51 (tupC [cSl, cB]) [Value.pointer p0, Value.int IntKind.i64 p1] h Q = F51 p0 p1 h Q := by kernel_rfl
theorem c51 {p0 : Option Addr} {p1 : Int} {h : Hp} {Q : Sl × Bool → Hp → Prop} (hk : F51 p0 p1 h Q) : callP Try.prog 51 [Value.pointer p0, Value.int IntKind.i64 p1] (tupC [cSl, cB]) h Q :=
  spec_of (prem_of prog_ok dep_ok eqs_ok rfl (by kernel_rfl)) mix_ok ((e51 p0 p1 h Q).mpr hk)
def a52 : Ann := { prom := 0, refs := [], dyn := 0, bcd := fun s => match s with | _ => none, eqs := memL eqL, cdc := cdcs, res := ress, pure := memL [97], pan := memL [122, 137] }
def n52 : An := (.seq (.reg []) (.seq (.reg []) (.seq (.join [(26, false, cB)] 134213632 (.reg []) (.cond (.seq (.reg []) .leaf) .leaf)) (.seq (.reg []) .leaf))))
/-- (*consols/consolsref9.Keep).From -/
def F52 (p0 : Option Addr) (p1 : Int) (h : Hp) (Q : Sl × Bool → Hp → Prop) : Prop :=
  nilP p0 fun (a1 : Addr) =>
    loadP cSl (a1.add (0 : Nat)) h fun (s1 : Sl) =>
      joinP
        (fun (t1 : Bool) (h1 : Hp) =>
          condP t1 (Q ({ a := none, len := (0 : Nat), cap := (0 : Nat) : Sl }, false) h1)
            (allocP (Obj.cells { toList := [] : Array Value } (48 : Nat)) h1 fun (k1 : Nat) (h2 : Hp) =>
              nilP p0 fun (a2 : Addr) =>
                loadP cSl (a2.add (0 : Nat)) h2 fun (s2 : Sl) =>
                  cutP s2.len s2.cap (some (IntKind.i64.wrap (p1 - (1 : Int)))) none fun (k2 k3 : Nat) =>
                    appendP cFrame (48 : Nat) (64 : Nat) (some { block := k1, off := (0 : Nat) : Addr }) (0 : Nat) (0 : Nat) (cutA s2.a k2 s2.cap (8 : Nat)) (k3 - k2) h2 fun (p1 : Option Addr) (k4 k5 : Nat) (h3 : Hp) =>
                      Q ({ a := p1, len := k4, cap := k5 : Sl }, true) h3))
        fun (J1 : Bool → Hp → Prop) =>
        condP (decide (p1 < (1 : Int))) (J1 true h) (condP (decide (p1 > IntKind.i64.wrap ((↑s1.len : Int) + (1 : Int)))) (J1 true h) (J1 (decide (p1 < IntKind.i64.wrap (IntKind.i64.wrap ((↑s1.len : Int) + (1 : Int)) - (64 : Int)))) h))
theorem e52 (p0 : Option Addr) (p1 : Int) (h : Hp) (Q : Sl × Bool → Hp → Prop) : fnD a52 Try.prog 52 n52 (tupC [cSl, cB]) [Value.pointer p0, Value.int IntKind.i64 p1] h Q = F52 p0 p1 h Q := by kernel_rfl
theorem c52 {p0 : Option Addr} {p1 : Int} {h : Hp} {Q : Sl × Bool → Hp → Prop} (hk : F52 p0 p1 h Q) : callP Try.prog 52 [Value.pointer p0, Value.int IntKind.i64 p1] (tupC [cSl, cB]) h Q :=
  spec_of (prem_of prog_ok dep_ok eqs_ok rfl (by kernel_rfl)) mix_ok ((e52 p0 p1 h Q).mpr hk)
def a53 : Ann := { prom := 0, refs := [], dyn := 0, bcd := fun s => match s with | _ => none, eqs := memL eqL, cdc := cdcs, res := ress, pure := memL [97], pan := memL [122, 137] }
def n53 : An := (.seq (.reg []) (.seq (.seq (.reg []) (.cond (.seq (.reg []) .leaf) .leaf)) (.seq (.seq (.reg []) (.block (.loop [(5, false, cI .i64)] 67106864 (.seq (.seq (.reg []) (.cond .leaf .leaf)) (.seq (.block (.seq (.reg [(0, []), (1, []), (2, []), (4, []), (5, []), (6, []), (3, []), (7, []), (8, [])]) (.cond (.seq (.reg []) .leaf) .leaf))) (.reg [])))))) (.seq (.reg []) .leaf))))
/-- consols/consolsref5.Same -/
def F53 (p0 : Sl) (p1 : Sl) (h : Hp) (Q : Bool → Hp → Prop) : Prop :=
  condP ((↑p0.len : Int) != (↑p1.len : Int)) (Q false h)
    (loopP (0 : Int) h fun (J1 : Int → Hp → Prop) (n1 : Int) (h1 : Hp) =>
      condP (decide (n1 < (↑p0.len : Int)))
        (idxP p0.a p0.len n1 fun (a1 : Addr) =>
          idxP p1.a p1.len n1 fun (a2 : Addr) =>
            loadP cFrame (a1.add (n1.toNat * (8 : Nat))) h1 fun (x1 : Frame) =>
              loadP cFrame (a2.add (n1.toNat * (8 : Nat))) h1 fun (x2 : Frame) =>
                condP
                  (!(x1.Seq == x2.Seq &&
                      (x1.Msg_Kind == x2.Msg_Kind && (x1.Msg_F_0 == x2.Msg_F_0 && (x1.Msg_F_1 == x2.Msg_F_1 && (x1.Msg_F_2 == x2.Msg_F_2 && (x1.Msg_F_3 == x2.Msg_F_3 && (x1.Msg_F_4 == x2.Msg_F_4 && (x1.Msg_F_5 == x2.Msg_F_5 && true)))))))))
                  (Q false h1) (J1 (IntKind.i64.wrap (n1 + (1 : Int))) h1))
        (Q true h1))
theorem e53 (p0 : Sl) (p1 : Sl) (h : Hp) (Q : Bool → Hp → Prop) : fnD a53 Try.prog 53 n53 (cB) [Value.slice p0.a p0.len p0.cap, Value.slice p1.a p1.len p1.cap] h Q = F53 p0 p1 h Q := by kernel_rfl
theorem c53 {p0 : Sl} {p1 : Sl} {h : Hp} {Q : Bool → Hp → Prop} (hk : F53 p0 p1 h Q) : callP Try.prog 53 [Value.slice p0.a p0.len p0.cap, Value.slice p1.a p1.len p1.cap] (cB) h Q :=
  spec_of (prem_of prog_ok dep_ok eqs_ok rfl (by kernel_rfl)) mix_ok ((e53 p0 p1 h Q).mpr hk)
def a54 : Ann := { prom := 0, refs := [], dyn := 0, bcd := fun s => match s with | _ => none, eqs := memL eqL, cdc := cdcs, res := ress, pure := memL [97], pan := memL [122, 137] }
def n54 : An := (.seq (.reg []) (.seq (.seq (.reg []) (.cond (.seq (.reg []) .leaf) .leaf)) (.seq (.reg []) .leaf)))
/-- (*consols/keep.Keep).Next -/
def F54 (p0 : Option Addr) (h : Hp) (Q : Int → Hp → Prop) : Prop :=
 condP p0.isNone (Q (0 : Int) h) (nilP p0 fun (a1 : Addr) => loadP (cI IntKind.i64) { block := a1.block, off := a1.off + (1 : Nat) : Addr } h fun (n1 : Int) => Q n1 h)
theorem e54 (p0 : Option Addr) (h : Hp) (Q : Int → Hp → Prop) : fnD a54 Try.prog 54 n54 (cI .i64) [Value.pointer p0] h Q = F54 p0 h Q := by kernel_rfl
theorem c54 {p0 : Option Addr} {h : Hp} {Q : Int → Hp → Prop} (hk : F54 p0 h Q) : callP Try.prog 54 [Value.pointer p0] (cI .i64) h Q :=
  spec_of (prem_of prog_ok dep_ok eqs_ok rfl (by kernel_rfl)) mix_ok ((e54 p0 h Q).mpr hk)
def a55 : Ann := { prom := 0, refs := [], dyn := 0, bcd := fun s => match s with | _ => none, eqs := memL eqL, cdc := cdcs, res := ress, pure := memL [97], pan := memL [122, 137] }
def n55 : An := (.seq (.reg []) (.seq (.reg []) .leaf))
/-- (*consols/consolsref9.Keep).Next -/
def F55 (p0 : Option Addr) (h : Hp) (Q : Int → Hp → Prop) : Prop :=
 nilP p0 fun (a1 : Addr) => loadP cSl (a1.add (0 : Nat)) h fun (s1 : Sl) => Q (IntKind.i64.wrap ((↑s1.len : Int) + (1 : Int))) h
theorem e55 (p0 : Option Addr) (h : Hp) (Q : Int → Hp → Prop) : fnD a55 Try.prog 55 n55 (cI .i64) [Value.pointer p0] h Q = F55 p0 h Q := by kernel_rfl
theorem c55 {p0 : Option Addr} {h : Hp} {Q : Int → Hp → Prop} (hk : F55 p0 h Q) : callP Try.prog 55 [Value.pointer p0] (cI .i64) h Q :=
  spec_of (prem_of prog_ok dep_ok eqs_ok rfl (by kernel_rfl)) mix_ok ((e55 p0 h Q).mpr hk)
def a56 : Ann := { prom := 12, refs := [(18, 2), (22, 3)], dyn := 0, bcd := fun s => match s with | 2 => some (cFrame) | 3 => some (cFrame) | _ => none, eqs := memL eqL, cdc := cdcs, res := ress, pure := memL [97], pan := memL [122, 137] }
def n56 : An := (.seq (.reg []) (.seq (.reg []) (.seq (.reg []) (.seq (.reg []) (.seq (.reg []) (.seq (.reg [(0, []), (1, []), (2, []), (3, []), (4, []), (5, []), (6, []), (7, []), (8, []), (9, []), (10, []), (11, []), (12, []), (13, []), (14, []), (15, []), (16, []), (17, []), (18, []), (20, []), (19, []), (21, []), (22, []), (23, []), (24, []), (25, []), (26, []), (27, []), (28, [])]) .leaf))))))
/-- consols/consolslaw9.known -/
def F56  (h : Hp) (Q : Bool → Hp → Prop) : Prop :=
  callP Try.prog (48 : Nat) [] cP h fun (p1 : Option Addr) (h1 : Hp) =>
    callP Try.prog (49 : Nat)
      [Value.pointer p1,
        Value.agg
          {
            toList :=
              [Value.int IntKind.i64 (18 : Int), Value.int IntKind.i64 (0 : Int), Value.int IntKind.i64 (0 : Int), Value.int IntKind.i64 (0 : Int), Value.int IntKind.i64 (0 : Int), Value.int IntKind.i64 (0 : Int),
                Value.int IntKind.i64 (0 : Int)] :
            Array Value }]
      cFrame h1 fun (x1 : Frame) (h2 : Hp) =>
      callP Try.prog (49 : Nat)
        [Value.pointer p1,
          Value.agg
            {
              toList :=
                [Value.int IntKind.i64 (27 : Int), Value.int IntKind.i64 (0 : Int), Value.int IntKind.i64 (0 : Int), Value.int IntKind.i64 (0 : Int), Value.int IntKind.i64 (0 : Int), Value.int IntKind.i64 (0 : Int),
                  Value.int IntKind.i64 (0 : Int)] :
              Array Value }]
        cFrame h2 fun (x2 : Frame) (h3 : Hp) =>
        callP Try.prog (51 : Nat) [Value.pointer p1, Value.int IntKind.i64 (2 : Int)] (tupC [cSl, cB]) h3 fun (z1 : Sl × Bool) (h4 : Hp) =>
          condP (x1.Seq == (1 : Int))
            (condP (x2.Seq == (2 : Int))
              (condP z1.snd
                (condP ((↑z1.fst.len : Int) == (1 : Int))
                  (idxP z1.fst.a z1.fst.len (0 : Int) fun (a1 : Addr) =>
                    loadP cFrame (a1.add (0 : Nat)) h4 fun (x3 : Frame) =>
                      condP
                        (x3.Seq == x2.Seq &&
                          (x3.Msg_Kind == x2.Msg_Kind &&
                            (x3.Msg_F_0 == x2.Msg_F_0 && (x3.Msg_F_1 == x2.Msg_F_1 && (x3.Msg_F_2 == x2.Msg_F_2 && (x3.Msg_F_3 == x2.Msg_F_3 && (x3.Msg_F_4 == x2.Msg_F_4 && (x3.Msg_F_5 == x2.Msg_F_5 && true))))))))
                        (callP Try.prog (54 : Nat) [Value.pointer p1] (cI IntKind.i64) h4 fun (n1 : Int) (h5 : Hp) => Q (n1 == (3 : Int)) h5) (Q false h4))
                  (Q false h4))
                (Q false h4))
              (Q false h4))
            (Q false h4)
theorem e56  (h : Hp) (Q : Bool → Hp → Prop) : fnD a56 Try.prog 56 n56 (cB) [] h Q = F56  h Q := by kernel_rfl
theorem c56  {h : Hp} {Q : Bool → Hp → Prop} (hk : F56  h Q) : callP Try.prog 56 [] (cB) h Q :=
  spec_of (prem_of prog_ok dep_ok eqs_ok rfl (by kernel_rfl)) mix_ok ((e56  h Q).mpr hk)
def a57 : Ann := { prom := 0, refs := [], dyn := 0, bcd := fun s => match s with | _ => none, eqs := memL eqL, cdc := cdcs, res := ress, pure := memL [97], pan := memL [122, 137] }
def n57 : An := (.seq (.reg []) (.seq (.join [(8, false, cB)] 504 (.reg []) (.cond (.seq (.reg []) .leaf) .leaf)) (.seq (.reg []) .leaf)))
/-- consols/consolsref8.New -/
def F57 (p0 : Int) (h : Hp) (Q : Option Addr → Hp → Prop) : Prop :=
  joinP
    (fun (t1 : Bool) (h1 : Hp) =>
      condP t1 (Q none h1)
        (allocP (Obj.cells { toList := [Value.slice none (0 : Nat) (0 : Nat), Value.int IntKind.i64 p0, Value.bool false] : Array Value } (66 : Nat)) h1 fun (k1 : Nat) (h2 : Hp) => Q (some { block := k1, off := (0 : Nat) : Addr }) h2))
    fun (J1 : Bool → Hp → Prop) => condP (decide (p0 < (1 : Int))) (J1 true h) (J1 (decide (p0 > (256 : Int))) h)
theorem e57 (p0 : Int) (h : Hp) (Q : Option Addr → Hp → Prop) : fnD a57 Try.prog 57 n57 (cP) [Value.int IntKind.i64 p0] h Q = F57 p0 h Q := by kernel_rfl
theorem c57 {p0 : Int} {h : Hp} {Q : Option Addr → Hp → Prop} (hk : F57 p0 h Q) : callP Try.prog 57 [Value.int IntKind.i64 p0] (cP) h Q :=
  spec_of (prem_of prog_ok dep_ok eqs_ok rfl (by kernel_rfl)) mix_ok ((e57 p0 h Q).mpr hk)
def a58 : Ann := { prom := 0, refs := [], dyn := 0, bcd := fun s => match s with | _ => none, eqs := memL eqL, cdc := cdcs, res := ress, pure := memL [97], pan := memL [122, 137] }
def n58 : An := (.seq (.reg []) (.seq (.seq (.reg []) (.block (.loop [(5, false, cI .i64)] 33554428 (.seq (.seq (.reg []) (.cond .leaf .leaf)) (.seq (.block (.seq (.reg []) (.seq (.reg []) (.cond (.seq (.reg []) .leaf) .leaf)))) (.reg [])))))) (.seq (.reg []) .leaf)))
/-- consols/consolsref8.First -/
def F58 (p0 : Sl) (h : Hp) (Q : Sl × Int × Bool → Hp → Prop) : Prop :=
  loopP (0 : Int) h fun (J1 : Int → Hp → Prop) (n1 : Int) (h1 : Hp) =>
    condP (decide (n1 < (↑p0.len : Int)))
      (idxP p0.a p0.len n1 fun (a1 : Addr) =>
        loadP cP (a1.add (n1.toNat * (1 : Nat))) h1 fun (p1 : Option Addr) =>
          callP Try.prog (60 : Nat) [Value.pointer p1] (tupC [cSl, cB]) h1 fun (z1 : Sl × Bool) (h2 : Hp) => condP z1.snd (Q (z1.fst, n1, true) h2) (J1 (IntKind.i64.wrap (n1 + (1 : Int))) h2))
      (Q ({ a := none, len := (0 : Nat), cap := (0 : Nat) : Sl }, (0 : Int), false) h1)
theorem e58 (p0 : Sl) (h : Hp) (Q : Sl × Int × Bool → Hp → Prop) : fnD a58 Try.prog 58 n58 (tupC [cSl, cI .i64, cB]) [Value.slice p0.a p0.len p0.cap] h Q = F58 p0 h Q := by kernel_rfl
theorem c58 {p0 : Sl} {h : Hp} {Q : Sl × Int × Bool → Hp → Prop} (hk : F58 p0 h Q) : callP Try.prog 58 [Value.slice p0.a p0.len p0.cap] (tupC [cSl, cI .i64, cB]) h Q :=
  spec_of (prem_of prog_ok dep_ok eqs_ok rfl (by kernel_rfl)) mix_ok ((e58 p0 h Q).mpr hk)
def a59 : Ann := { prom := 0, refs := [], dyn := 0, bcd := fun s => match s with | _ => none, eqs := memL eqL, cdc := cdcs, res := ress, pure := memL [97], pan := memL [122, 137] }
def n59 : An := (.seq (.reg []) (.seq (.join [(20, false, cB)] 2097120 (.reg [(0, []), (1, []), (2, []), (3, []), (4, []), (5, []), (6, []), (7, []), (10, []), (11, []), (12, []), (8, []), (9, []), (13, []), (14, []), (15, [])]) (.cond (.seq (.reg []) .leaf) .leaf)) (.seq (.reg [(0, []), (1, []), (2, []), (3, []), (6, []), (4, []), (5, []), (7, [4]), (8, []), (9, []), (10, []), (11, []), (12, [])]) (.seq (.reg []) .leaf))))
/-- (*consols/consolsref8.Box).Put -/
def F59 (p0 : Option Addr) (p1 : Sl) (h : Hp) (Q : Bool → Hp → Prop) : Prop :=
  joinP
    (fun (t1 : Bool) (h1 : Hp) =>
      condP t1 (Q false h1)
        (nilP p0 fun (a1 : Addr) =>
          loadP cSl (a1.add (0 : Nat)) h1 fun (s1 : Sl) =>
            allocP (Obj.cells { toList := [] : Array Value } (5 : Nat)) h1 fun (k1 : Nat) (h2 : Hp) =>
              appendP (cI IntKind.u8) (5 : Nat) (1 : Nat) (some { block := k1, off := (0 : Nat) : Addr }) (0 : Nat) (0 : Nat) p1.a p1.len h2 fun (p1 : Option Addr) (k2 k3 : Nat) (h3 : Hp) =>
                (h3.rds (a1.add (0 : Nat)) [Value.slice s1.a s1.len s1.cap] ∧ True) ∧
                  allocP (Obj.cells { toList := [Value.slice p1 k2 k3] : Array Value } (25 : Nat)) h3 fun (k4 : Nat) (h4 : Hp) =>
                    appendP cSl (25 : Nat) (24 : Nat) s1.a s1.len s1.cap (some { block := k4, off := (0 : Nat) : Addr }) (1 : Nat) h4 fun (p2 : Option Addr) (k5 k6 : Nat) (h5 : Hp) =>
                      nilP p0 fun (a2 : Addr) => storeP cSl (a2.add (0 : Nat)) { a := p2, len := k5, cap := k6 : Sl } h5 fun (h6 : Hp) => Q true h6))
    fun (J1 : Bool → Hp → Prop) =>
    nilP p0 fun (a3 : Addr) =>
      loadP cB { block := a3.block, off := a3.off + (2 : Nat) : Addr } h fun (t2 : Bool) =>
        condP t2 (J1 true h)
          (nilP p0 fun (a4 : Addr) =>
            nilP p0 fun (a5 : Addr) => loadP cSl (a4.add (0 : Nat)) h fun (s2 : Sl) => loadP (cI IntKind.i64) { block := a5.block, off := a5.off + (1 : Nat) : Addr } h fun (n1 : Int) => J1 (decide ((↑s2.len : Int) ≥ n1)) h)
theorem e59 (p0 : Option Addr) (p1 : Sl) (h : Hp) (Q : Bool → Hp → Prop) : fnD a59 Try.prog 59 n59 (cB) [Value.pointer p0, Value.slice p1.a p1.len p1.cap] h Q = F59 p0 p1 h Q := by kernel_rfl
theorem c59 {p0 : Option Addr} {p1 : Sl} {h : Hp} {Q : Bool → Hp → Prop} (hk : F59 p0 p1 h Q) : callP Try.prog 59 [Value.pointer p0, Value.slice p1.a p1.len p1.cap] (cB) h Q :=
  spec_of (prem_of prog_ok dep_ok eqs_ok rfl (by kernel_rfl)) mix_ok ((e59 p0 p1 h Q).mpr hk)
def a60 : Ann := { prom := 0, refs := [], dyn := 0, bcd := fun s => match s with | _ => none, eqs := memL eqL, cdc := cdcs, res := ress, pure := memL [97], pan := memL [122, 137] }
def n60 : An := (.seq (.reg []) (.seq (.seq (.reg []) (.cond (.seq (.reg []) .leaf) .leaf)) (.seq (.reg []) (.seq (.reg []) (.seq (.reg []) .leaf)))))
/-- (*consols/consolsref8.Box).Take -/
def F60 (p0 : Option Addr) (h : Hp) (Q : Sl × Bool → Hp → Prop) : Prop :=
  nilP p0 fun (a1 : Addr) =>
    loadP cSl (a1.add (0 : Nat)) h fun (s1 : Sl) =>
      condP ((↑s1.len : Int) == (0 : Int)) (Q ({ a := none, len := (0 : Nat), cap := (0 : Nat) : Sl }, false) h)
        (nilP p0 fun (a2 : Addr) =>
          loadP cSl (a2.add (0 : Nat)) h fun (s2 : Sl) =>
            idxP s2.a s2.len (0 : Int) fun (a3 : Addr) =>
              loadP cSl (a3.add (0 : Nat)) h fun (s3 : Sl) =>
                nilP p0 fun (a4 : Addr) =>
                  loadP cSl (a4.add (0 : Nat)) h fun (s4 : Sl) =>
                    cutP s4.len s4.cap (some (1 : Int)) none fun (k1 k2 : Nat) =>
                      nilP p0 fun (a5 : Addr) => storeP cSl (a5.add (0 : Nat)) { a := cutA s4.a k1 s4.cap (1 : Nat), len := k2 - k1, cap := s4.cap - k1 : Sl } h fun (h1 : Hp) => Q (s3, true) h1)
theorem e60 (p0 : Option Addr) (h : Hp) (Q : Sl × Bool → Hp → Prop) : fnD a60 Try.prog 60 n60 (tupC [cSl, cB]) [Value.pointer p0] h Q = F60 p0 h Q := by kernel_rfl
theorem c60 {p0 : Option Addr} {h : Hp} {Q : Sl × Bool → Hp → Prop} (hk : F60 p0 h Q) : callP Try.prog 60 [Value.pointer p0] (tupC [cSl, cB]) h Q :=
  spec_of (prem_of prog_ok dep_ok eqs_ok rfl (by kernel_rfl)) mix_ok ((e60 p0 h Q).mpr hk)
def a61 : Ann := { prom := 0, refs := [], dyn := 0, bcd := fun s => match s with | _ => none, eqs := memL eqL, cdc := cdcs, res := ress, pure := memL [97], pan := memL [122, 137] }
def n61 : An := (.seq (.reg []) (.seq (.seq (.reg []) (.cond (.seq (.reg []) .leaf) .leaf)) (.seq (.reg []) .leaf)))
/-- (*consols/mail.Box).Len -/
def F61 (p0 : Option Addr) (h : Hp) (Q : Int → Hp → Prop) : Prop :=
 condP p0.isNone (Q (0 : Int) h) (nilP p0 fun (a1 : Addr) => loadP cC (a1.add (0 : Nat)) h fun (p1 : Option Nat) => lenCP p1 h fun (n1 : Int) => Q n1 h)
theorem e61 (p0 : Option Addr) (h : Hp) (Q : Int → Hp → Prop) : fnD a61 Try.prog 61 n61 (cI .i64) [Value.pointer p0] h Q = F61 p0 h Q := by kernel_rfl
theorem c61 {p0 : Option Addr} {h : Hp} {Q : Int → Hp → Prop} (hk : F61 p0 h Q) : callP Try.prog 61 [Value.pointer p0] (cI .i64) h Q :=
  spec_of (prem_of prog_ok dep_ok eqs_ok rfl (by kernel_rfl)) mix_ok ((e61 p0 h Q).mpr hk)
def a62 : Ann := { prom := 0, refs := [], dyn := 0, bcd := fun s => match s with | _ => none, eqs := memL eqL, cdc := cdcs, res := ress, pure := memL [97], pan := memL [122, 137] }
def n62 : An := (.seq (.reg []) (.seq (.reg []) (.seq (.seq (.reg []) (.block (.loop [(3, false, cSl), (9, false, cI .i64)] 2147483240 (.seq (.reg []) (.seq (.cond .leaf .leaf) (.seq (.block (.seq (.reg []) (.seq (.reg []) (.seq (.block (.loop [(3, false, cSl), (6, false, cI .u64)] 33521736 (.seq (.seq (.reg []) (.cond .leaf .leaf)) (.block (.seq (.reg []) (.reg [])))))) (.reg []))))) (.reg []))))))) (.seq (.reg []) .leaf))))
/-- consols/pack.Put -/
def F62 (p0 : Sl) (h : Hp) (Q : Sl → Hp → Prop) : Prop :=
  loopP ({ a := none, len := (0 : Nat), cap := (0 : Nat) : Sl }, (0 : Int)) h fun (J1 : Sl × Int → Hp → Prop) (z1 : Sl × Int) (h1 : Hp) =>
    condP (decide (z1.snd < (↑p0.len : Int)))
      (idxP p0.a p0.len z1.snd fun (a1 : Addr) =>
        loadP (cI IntKind.i64) (a1.add (z1.snd.toNat * (1 : Nat))) h1 fun (n1 : Int) =>
          callP Try.prog (120 : Nat) [Value.int IntKind.i64 n1] (cI IntKind.u64) h1 fun (n2 : Int) (h2 : Hp) =>
            loopP (z1.fst, n2) h2 fun (J2 : Sl × Int → Hp → Prop) (z2 : Sl × Int) (h3 : Hp) =>
              condP (decide (z2.snd ≥ (128 : Int)))
                (allocP (Obj.cells { toList := [Value.int IntKind.u8 (orI IntKind.u8 (IntKind.u8.wrap z2.snd) (128 : Int))] : Array Value } (5 : Nat)) h3 fun (k1 : Nat) (h4 : Hp) =>
                  appendP (cI IntKind.u8) (5 : Nat) (1 : Nat) z2.fst.a z2.fst.len z2.fst.cap (some { block := k1, off := (0 : Nat) : Addr }) (1 : Nat) h4 fun (p1 : Option Addr) (k2 k3 : Nat) (h5 : Hp) =>
                    (0 : Int) ≤ (7 : Int) ∧ J2 ({ a := p1, len := k2, cap := k3 : Sl }, shrI IntKind.u64 z2.snd (7 : Int)) h5)
                (allocP (Obj.cells { toList := [Value.int IntKind.u8 (IntKind.u8.wrap z2.snd)] : Array Value } (5 : Nat)) h3 fun (k4 : Nat) (h6 : Hp) =>
                  appendP (cI IntKind.u8) (5 : Nat) (1 : Nat) z2.fst.a z2.fst.len z2.fst.cap (some { block := k4, off := (0 : Nat) : Addr }) (1 : Nat) h6 fun (p2 : Option Addr) (k5 k6 : Nat) (h7 : Hp) =>
                    J1 ({ a := p2, len := k5, cap := k6 : Sl }, IntKind.i64.wrap (z1.snd + (1 : Int))) h7))
      (Q z1.fst h1)
theorem e62 (p0 : Sl) (h : Hp) (Q : Sl → Hp → Prop) : fnD a62 Try.prog 62 n62 (cSl) [Value.slice p0.a p0.len p0.cap] h Q = F62 p0 h Q := by kernel_rfl
theorem c62 {p0 : Sl} {h : Hp} {Q : Sl → Hp → Prop} (hk : F62 p0 h Q) : callP Try.prog 62 [Value.slice p0.a p0.len p0.cap] (cSl) h Q :=
  spec_of (prem_of prog_ok dep_ok eqs_ok rfl (by kernel_rfl)) mix_ok ((e62 p0 h Q).mpr hk)
def a63 : Ann := { prom := 0, refs := [], dyn := 0, bcd := fun s => match s with | _ => none, eqs := memL eqL, cdc := cdcs, res := ress, pure := memL [97], pan := memL [122, 137] }
def n63 : An := (.join [] 7680 (.seq (.reg []) (.cond .regX .leaf)) (.seq (.block (.loop [(0, false, cSl)] 134209729 (.seq (.seq (.reg []) (.cond .leaf .leaf)) (.block (.seq .regX (.reg [])))))) (.join [] 4160749568 (.seq (.reg []) (.cond .regX .leaf)) (.seq (.reg []) .leaf))))
/-- consols/pack.Get -/
def F63 (p0 : Sl) (p1 : Int) (h : Hp) (Q : Sl × Int → Hp → Prop) : Prop :=
  allocP (Obj.cells { toList := [Value.slice none (0 : Nat) (0 : Nat)] : Array Value } (37 : Nat)) h fun (k1 : Nat) (h1 : Hp) =>
    allocP (Obj.cells { toList := [Value.int IntKind.i64 (0 : Int)] : Array Value } (71 : Nat)) h1 fun (k2 : Nat) (h2 : Hp) =>
      joinP
        (fun (u1 : PUnit) (h3 : Hp) =>
          loopP p0 h3 fun (J1 : Sl → Hp → Prop) (s1 : Sl) (h4 : Hp) =>
            loadP cSl { block := k1, off := (0 : Nat) : Addr } h4 fun (s2 : Sl) =>
              condP (decide ((↑s2.len : Int) < p1))
                (callXP Try.prog (122 : Nat) [Value.slice s1.a s1.len s1.cap] (tupC [cI IntKind.i64, cSl]) h4
                  (fun (z1 : Int × Sl) (h5 : Hp) =>
                    loadP cSl { block := k1, off := (0 : Nat) : Addr } h5 fun (s3 : Sl) =>
                      allocP (Obj.cells { toList := [Value.int IntKind.i64 z1.fst] : Array Value } (2 : Nat)) h5 fun (k3 : Nat) (h6 : Hp) =>
                        appendP (cI IntKind.i64) (2 : Nat) (8 : Nat) s3.a s3.len s3.cap (some { block := k3, off := (0 : Nat) : Addr }) (1 : Nat) h6 fun (p1 : Option Addr) (k4 k5 : Nat) (h7 : Hp) =>
                          storeP cSl { block := k1, off := (0 : Nat) : Addr } { a := p1, len := k4, cap := k5 : Sl } h7 fun (h8 : Hp) => J1 z1.snd h8)
                  fun (x1 : Value) (h9 : Hp) =>
                  deferP Try.prog (121 : Nat) [Value.pointer (some { block := k1, off := (0 : Nat) : Addr }), Value.pointer (some { block := k2, off := (0 : Nat) : Addr })] (some x1) h9 fun (h10 : Hp) =>
                    loadP cSl { block := k1, off := (0 : Nat) : Addr } h10 fun (s4 : Sl) => loadP (cI IntKind.i64) { block := k2, off := (0 : Nat) : Addr } h10 fun (n1 : Int) => Q (s4, n1) h10)
                (joinP
                  (fun (u2 : PUnit) (h11 : Hp) =>
                    loadP cSl { block := k1, off := (0 : Nat) : Addr } h11 fun (s5 : Sl) =>
                      storeP cSl { block := k1, off := (0 : Nat) : Addr } s5 h11 fun (h12 : Hp) =>
                        storeP (cI IntKind.i64) { block := k2, off := (0 : Nat) : Addr } (0 : Int) h12 fun (h13 : Hp) =>
                          deferP Try.prog (121 : Nat) [Value.pointer (some { block := k1, off := (0 : Nat) : Addr }), Value.pointer (some { block := k2, off := (0 : Nat) : Addr })] none h13 fun (h14 : Hp) =>
                            loadP cSl { block := k1, off := (0 : Nat) : Addr } h14 fun (s6 : Sl) => loadP (cI IntKind.i64) { block := k2, off := (0 : Nat) : Addr } h14 fun (n2 : Int) => Q (s6, n2) h14)
                  fun (J2 : PUnit → Hp → Prop) =>
                  condP (decide ((↑s1.len : Int) > (0 : Int)))
                    (deferP Try.prog (121 : Nat) [Value.pointer (some { block := k1, off := (0 : Nat) : Addr }), Value.pointer (some { block := k2, off := (0 : Nat) : Addr })]
                      (some (Value.iface (146 : Nat) (Value.agg { toList := [] : Array Value }))) h4 fun (h15 : Hp) =>
                      loadP cSl { block := k1, off := (0 : Nat) : Addr } h15 fun (s7 : Sl) => loadP (cI IntKind.i64) { block := k2, off := (0 : Nat) : Addr } h15 fun (n3 : Int) => Q (s7, n3) h15)
                    (J2 PUnit.unit h4)))
        fun (J3 : PUnit → Hp → Prop) =>
        condP (decide (p1 < (0 : Int)))
          (deferP Try.prog (121 : Nat) [Value.pointer (some { block := k1, off := (0 : Nat) : Addr }), Value.pointer (some { block := k2, off := (0 : Nat) : Addr })]
            (some (Value.iface (146 : Nat) (Value.agg { toList := [] : Array Value }))) h2 fun (h16 : Hp) =>
            loadP cSl { block := k1, off := (0 : Nat) : Addr } h16 fun (s8 : Sl) => loadP (cI IntKind.i64) { block := k2, off := (0 : Nat) : Addr } h16 fun (n4 : Int) => Q (s8, n4) h16)
          (J3 PUnit.unit h2)
theorem e63 (p0 : Sl) (p1 : Int) (h : Hp) (Q : Sl × Int → Hp → Prop) : fnDD a63 Try.prog 63 n63 (tupC [cSl, cI .i64]) [Value.slice p0.a p0.len p0.cap, Value.int IntKind.i64 p1] h Q = F63 p0 p1 h Q := by kernel_rfl
theorem c63 {p0 : Sl} {p1 : Int} {h : Hp} {Q : Sl × Int → Hp → Prop} (hk : F63 p0 p1 h Q) : callP Try.prog 63 [Value.slice p0.a p0.len p0.cap, Value.int IntKind.i64 p1] (tupC [cSl, cI .i64]) h Q :=
  specDD_of (prem_of prog_ok dep_ok eqs_ok rfl (by kernel_rfl)) mix_ok ((e63 p0 p1 h Q).mpr hk)
def a64 : Ann := { prom := 0, refs := [], dyn := 0, bcd := fun s => match s with | _ => none, eqs := memL eqL, cdc := cdcs, res := ress, pure := memL [97], pan := memL [122, 137] }
def n64 : An := (.seq (.reg []) (.seq (.reg []) (.seq (.seq (.reg []) (.block (.loop [(3, false, cSl), (4, false, cI .i64)] 524248 (.seq (.seq (.reg []) (.cond .leaf .leaf)) (.seq (.block (.reg [])) (.reg [])))))) (.seq (.reg []) .leaf))))
/-- consols/consolsref3.Put -/
def F64 (p0 : Sl) (h : Hp) (Q : Sl → Hp → Prop) : Prop :=
  allocP (Obj.cells { toList := [] : Array Value } (5 : Nat)) h fun (k1 : Nat) (h1 : Hp) =>
    loopP ({ a := some { block := k1, off := (0 : Nat) : Addr }, len := (0 : Nat), cap := (0 : Nat) : Sl }, (0 : Int)) h1 fun (J1 : Sl × Int → Hp → Prop) (z1 : Sl × Int) (h2 : Hp) =>
      condP (decide (z1.snd < (↑p0.len : Int)))
        (idxP p0.a p0.len z1.snd fun (a1 : Addr) =>
          loadP (cI IntKind.i64) (a1.add (z1.snd.toNat * (1 : Nat))) h2 fun (n1 : Int) =>
            callP Try.prog (123 : Nat) [Value.int IntKind.i64 n1] cSl h2 fun (s1 : Sl) (h3 : Hp) =>
              appendP (cI IntKind.u8) (5 : Nat) (1 : Nat) z1.fst.a z1.fst.len z1.fst.cap s1.a s1.len h3 fun (p1 : Option Addr) (k2 k3 : Nat) (h4 : Hp) => J1 ({ a := p1, len := k2, cap := k3 : Sl }, IntKind.i64.wrap (z1.snd + (1 : Int))) h4)
        (Q z1.fst h2)
theorem e64 (p0 : Sl) (h : Hp) (Q : Sl → Hp → Prop) : fnD a64 Try.prog 64 n64 (cSl) [Value.slice p0.a p0.len p0.cap] h Q = F64 p0 h Q := by kernel_rfl
theorem c64 {p0 : Sl} {h : Hp} {Q : Sl → Hp → Prop} (hk : F64 p0 h Q) : callP Try.prog 64 [Value.slice p0.a p0.len p0.cap] (cSl) h Q :=
  spec_of (prem_of prog_ok dep_ok eqs_ok rfl (by kernel_rfl)) mix_ok ((e64 p0 h Q).mpr hk)
def a65 : Ann := { prom := 0, refs := [], dyn := 0, bcd := fun s => match s with | _ => none, eqs := memL eqL, cdc := cdcs, res := ress, pure := memL [97], pan := memL [122, 137] }
def n65 : An := (.seq (.reg []) (.seq (.seq (.reg []) (.cond (.seq (.reg []) .leaf) .leaf)) (.seq (.seq (.reg []) (.block (.loop [(5, false, cI .i64)] 67106864 (.seq (.seq (.reg []) (.cond .leaf .leaf)) (.seq (.block (.seq (.reg [(0, []), (1, []), (2, []), (4, []), (5, []), (6, []), (3, []), (7, []), (8, [])]) (.cond (.seq (.reg []) .leaf) .leaf))) (.reg [])))))) (.seq (.reg []) .leaf))))
/-- consols/consolsref3.Same -/
def F65 (p0 : Sl) (p1 : Sl) (h : Hp) (Q : Bool → Hp → Prop) : Prop :=
  condP ((↑p0.len : Int) != (↑p1.len : Int)) (Q false h)
    (loopP (0 : Int) h fun (J1 : Int → Hp → Prop) (n1 : Int) (h1 : Hp) =>
      condP (decide (n1 < (↑p0.len : Int)))
        (idxP p0.a p0.len n1 fun (a1 : Addr) =>
          idxP p1.a p1.len n1 fun (a2 : Addr) =>
            loadP (cI IntKind.i64) (a1.add (n1.toNat * (1 : Nat))) h1 fun (n2 : Int) => loadP (cI IntKind.i64) (a2.add (n1.toNat * (1 : Nat))) h1 fun (n3 : Int) => condP (n2 != n3) (Q false h1) (J1 (IntKind.i64.wrap (n1 + (1 : Int))) h1))
        (Q true h1))
theorem e65 (p0 : Sl) (p1 : Sl) (h : Hp) (Q : Bool → Hp → Prop) : fnD a65 Try.prog 65 n65 (cB) [Value.slice p0.a p0.len p0.cap, Value.slice p1.a p1.len p1.cap] h Q = F65 p0 p1 h Q := by kernel_rfl
theorem c65 {p0 : Sl} {p1 : Sl} {h : Hp} {Q : Bool → Hp → Prop} (hk : F65 p0 p1 h Q) : callP Try.prog 65 [Value.slice p0.a p0.len p0.cap, Value.slice p1.a p1.len p1.cap] (cB) h Q :=
  spec_of (prem_of prog_ok dep_ok eqs_ok rfl (by kernel_rfl)) mix_ok ((e65 p0 p1 h Q).mpr hk)
def a66 : Ann := { prom := 0, refs := [], dyn := 0, bcd := fun s => match s with | _ => none, eqs := memL eqL, cdc := cdcs, res := ress, pure := memL [97], pan := memL [122, 137] }
def n66 : An := (.seq (.reg []) (.seq (.reg []) (.seq (.reg []) .leaf)))
/-- consols/consolslaw3.known -/
def F66  (h : Hp) (Q : Bool → Hp → Prop) : Prop :=
  allocP (Obj.cells { toList := [Value.int IntKind.u8 (1 : Int), Value.int IntKind.u8 (216 : Int), Value.int IntKind.u8 (4 : Int)] : Array Value } (5 : Nat)) h fun (k1 : Nat) (h1 : Hp) =>
    callP Try.prog (63 : Nat) [Value.slice (some { block := k1, off := (0 : Nat) : Addr }) (3 : Nat) (3 : Nat), Value.int IntKind.i64 (2 : Int)] (tupC [cSl, cI IntKind.i64]) h1 fun (z1 : Sl × Int) (h2 : Hp) =>
      allocP (Obj.cells { toList := [Value.int IntKind.i64 (-1 : Int), Value.int IntKind.i64 (300 : Int)] : Array Value } (2 : Nat)) h2 fun (k2 : Nat) (h3 : Hp) =>
        callP Try.prog (62 : Nat) [Value.slice (some { block := k2, off := (0 : Nat) : Addr }) (2 : Nat) (2 : Nat)] cSl h3 fun (s1 : Sl) (h4 : Hp) =>
          strP s1.a s1.len h4 fun (u1 : ByteArray) =>
            condP (strEq u1 { data := #[(1 : UInt8), (216 : UInt8), (4 : UInt8)] : ByteArray })
              (condP (z1.snd == (0 : Int))
                (condP ((↑z1.fst.len : Int) == (2 : Int)) (idxP z1.fst.a z1.fst.len (1 : Int) fun (a1 : Addr) => loadP (cI IntKind.i64) { block := a1.block, off := a1.off + (1 : Nat) : Addr } h4 fun (n1 : Int) => Q (n1 == (300 : Int)) h4)
                  (Q false h4))
                (Q false h4))
              (Q false h4)
theorem e66  (h : Hp) (Q : Bool → Hp → Prop) : fnD a66 Try.prog 66 n66 (cB) [] h Q = F66  h Q := by kernel_rfl
theorem c66  {h : Hp} {Q : Bool → Hp → Prop} (hk : F66  h Q) : callP Try.prog 66 [] (cB) h Q :=
  spec_of (prem_of prog_ok dep_ok eqs_ok rfl (by kernel_rfl)) mix_ok ((e66  h Q).mpr hk)
def a67 : Ann := { prom := 0, refs := [], dyn := 0, bcd := fun s => match s with | _ => none, eqs := memL eqL, cdc := cdcs, res := ress, pure := memL [97], pan := memL [122, 137] }
def n67 : An := (.seq (.reg []) (.seq (.reg []) (.seq (.seq (.reg []) (.block (.loop [(0, false, cSl), (6, false, cSl), (7, false, cI .i64)] 2147483633 (.seq (.seq (.reg []) (.cond .leaf .leaf)) (.seq (.block (.seq (.reg []) (.seq (.seq (.reg []) (.cond (.seq (.reg []) .leaf) .leaf)) (.seq (.reg []) (.reg []))))) (.reg [])))))) (.seq (.join [(37, false, cB)] 272730423296 (.reg []) (.cond (.seq (.reg []) .leaf) .leaf)) (.seq (.reg []) .leaf)))))
/-- consols/consolsref3.Get -/
def F67 (p0 : Sl) (p1 : Int) (h : Hp) (Q : Sl × Int → Hp → Prop) : Prop :=
  loopP (p0, { a := none, len := (0 : Nat), cap := (0 : Nat) : Sl }, (0 : Int)) h fun (J1 : Sl × Sl × Int → Hp → Prop) (z1 : Sl × Sl × Int) (h1 : Hp) =>
    condP (decide (z1.snd.snd < p1))
      (callP Try.prog (69 : Nat) [Value.slice z1.fst.a z1.fst.len z1.fst.cap] (tupC [cI IntKind.i64, cI IntKind.i64, cB]) h1 fun (z2 : Int × Int × Bool) (h2 : Hp) =>
        condP (!z2.snd.snd) (Q ({ a := none, len := (0 : Nat), cap := (0 : Nat) : Sl }, (2 : Int)) h2)
          (allocP (Obj.cells { toList := [Value.int IntKind.i64 z2.fst] : Array Value } (2 : Nat)) h2 fun (k1 : Nat) (h3 : Hp) =>
            appendP (cI IntKind.i64) (2 : Nat) (8 : Nat) z1.snd.fst.a z1.snd.fst.len z1.snd.fst.cap (some { block := k1, off := (0 : Nat) : Addr }) (1 : Nat) h3 fun (p1 : Option Addr) (k2 k3 : Nat) (h4 : Hp) =>
              cutP z1.fst.len z1.fst.cap (some z2.snd.fst) none fun (k4 k5 : Nat) =>
                J1 ({ a := cutA z1.fst.a k4 z1.fst.cap (1 : Nat), len := k5 - k4, cap := z1.fst.cap - k4 : Sl }, { a := p1, len := k2, cap := k3 : Sl }, IntKind.i64.wrap (z1.snd.snd + (1 : Int))) h4))
      (joinP (fun (t1 : Bool) (h5 : Hp) => condP t1 (Q ({ a := none, len := (0 : Nat), cap := (0 : Nat) : Sl }, (2 : Int)) h5) (Q (z1.snd.fst, (0 : Int)) h5)) fun (J2 : Bool → Hp → Prop) =>
        condP (decide (p1 < (0 : Int))) (J2 true h1) (J2 (decide ((↑z1.fst.len : Int) > (0 : Int))) h1))
theorem e67 (p0 : Sl) (p1 : Int) (h : Hp) (Q : Sl × Int → Hp → Prop) : fnD a67 Try.prog 67 n67 (tupC [cSl, cI .i64]) [Value.slice p0.a p0.len p0.cap, Value.int IntKind.i64 p1] h Q = F67 p0 p1 h Q := by kernel_rfl
theorem c67 {p0 : Sl} {p1 : Int} {h : Hp} {Q : Sl × Int → Hp → Prop} (hk : F67 p0 p1 h Q) : callP Try.prog 67 [Value.slice p0.a p0.len p0.cap, Value.int IntKind.i64 p1] (tupC [cSl, cI .i64]) h Q :=
  spec_of (prem_of prog_ok dep_ok eqs_ok rfl (by kernel_rfl)) mix_ok ((e67 p0 p1 h Q).mpr hk)
def a68 : Ann := { prom := 0, refs := [], dyn := 0, bcd := fun s => match s with | _ => none, eqs := memL eqL, cdc := cdcs, res := ress, pure := memL [97], pan := memL [122, 137] }
def n68 : An := (.seq (.reg []) (.seq (.reg []) (.seq (.seq (.reg []) (.block (.loop [(5, false, cI .u64), (14, false, cI .i64)] 281474976694524 (.seq (.reg []) (.seq (.cond .leaf .leaf) (.seq (.block (.seq (.reg []) (.seq (.reg []) (.seq (.seq (.reg []) (.cond .leaf .leaf)) (.seq (.join [(42, false, cB)] 8795556151296 (.reg []) (.cond (.seq (.reg []) .leaf) .leaf)) (.seq (.reg []) .leaf)))))) (.reg []))))))) (.seq (.reg []) .leaf))))
/-- consols/pack.First -/
def F68 (p0 : Sl) (h : Hp) (Q : Int × Int × Bool → Hp → Prop) : Prop :=
  cutP p0.len p0.cap none (some (minI (↑p0.len : Int) (10 : Int))) fun (k1 k2 : Nat) =>
    loopP ((0 : Int), (0 : Int)) h fun (J1 : Int × Int → Hp → Prop) (z1 : Int × Int) (h1 : Hp) =>
      condP (decide (z1.snd < (↑(k2 - k1) : Int)))
        (idxP (cutA p0.a k1 p0.cap (1 : Nat)) (k2 - k1) z1.snd fun (a1 : Addr) =>
          loadP (cI IntKind.u8) (a1.add (z1.snd.toNat * (1 : Nat))) h1 fun (n1 : Int) =>
            (128 : Int) ≠ (0 : Int) ∧
              (0 : Int) ≤ IntKind.i64.wrap ((7 : Int) * z1.snd) ∧
                condP (decide (n1 ≥ (128 : Int))) (J1 (orI IntKind.u64 z1.fst (shlI IntKind.u64 (IntKind.u64.wrap (n1.tmod (128 : Int))) (IntKind.i64.wrap ((7 : Int) * z1.snd))), IntKind.i64.wrap (z1.snd + (1 : Int))) h1)
                  (joinP
                    (fun (t1 : Bool) (h2 : Hp) =>
                      condP t1 (Q ((0 : Int), (0 : Int), false) h2)
                        (callP Try.prog (124 : Nat) [Value.int IntKind.u64 (orI IntKind.u64 z1.fst (shlI IntKind.u64 (IntKind.u64.wrap (n1.tmod (128 : Int))) (IntKind.i64.wrap ((7 : Int) * z1.snd))))] (cI IntKind.i64) h2
                          fun (n2 : Int) (h3 : Hp) => Q (n2, IntKind.i64.wrap (z1.snd + (1 : Int)), true) h3))
                    fun (J2 : Bool → Hp → Prop) =>
                    condP (n1 == (0 : Int)) (condP (decide (z1.snd > (0 : Int))) (J2 true h1) (condP (z1.snd == (9 : Int)) (J2 (decide (n1 > (1 : Int))) h1) (J2 false h1)))
                      (condP (z1.snd == (9 : Int)) (J2 (decide (n1 > (1 : Int))) h1) (J2 false h1))))
        (Q ((0 : Int), (0 : Int), false) h1)
theorem e68 (p0 : Sl) (h : Hp) (Q : Int × Int × Bool → Hp → Prop) : fnD a68 Try.prog 68 n68 (tupC [cI .i64, cI .i64, cB]) [Value.slice p0.a p0.len p0.cap] h Q = F68 p0 h Q := by kernel_rfl
theorem c68 {p0 : Sl} {h : Hp} {Q : Int × Int × Bool → Hp → Prop} (hk : F68 p0 h Q) : callP Try.prog 68 [Value.slice p0.a p0.len p0.cap] (tupC [cI .i64, cI .i64, cB]) h Q :=
  spec_of (prem_of prog_ok dep_ok eqs_ok rfl (by kernel_rfl)) mix_ok ((e68 p0 h Q).mpr hk)
def a69 : Ann := { prom := 0, refs := [], dyn := 0, bcd := fun s => match s with | _ => none, eqs := memL eqL, cdc := cdcs, res := ress, pure := memL [97], pan := memL [122, 137] }
def n69 : An := (.seq (.reg []) (.seq (.reg []) (.seq (.seq (.reg []) (.block (.loop [(5, false, cI .u64), (6, false, cI .i64)] 562949953421308 (.seq (.join [(15, false, cB)] 65280 (.reg []) (.cond .leaf .leaf)) (.seq (.block (.seq (.reg []) (.seq (.reg []) (.cond (.seq (.reg []) (.seq (.seq (.reg [(0, []), (3, []), (4, []), (5, []), (6, []), (7, []), (1, [7]), (2, []), (8, [])]) (.cond (.seq (.reg []) .leaf) .leaf)) (.seq (.reg []) .leaf))) .leaf)))) (.reg [])))))) (.seq (.reg []) .leaf))))
/-- consols/consolsref3.First -/
def F69 (p0 : Sl) (h : Hp) (Q : Int × Int × Bool → Hp → Prop) : Prop :=
  loopP ((0 : Int), (0 : Int)) h fun (J1 : Int × Int → Hp → Prop) (z1 : Int × Int) (h1 : Hp) =>
    joinP
      (fun (t1 : Bool) (h2 : Hp) =>
        condP t1
          (idxP p0.a p0.len z1.snd fun (a1 : Addr) =>
            loadP (cI IntKind.u8) (a1.add (z1.snd.toNat * (1 : Nat))) h2 fun (n1 : Int) =>
              (128 : Int) ≠ (0 : Int) ∧
                (0 : Int) ≤ IntKind.u64.wrap (IntKind.i64.wrap ((7 : Int) * z1.snd)) ∧
                  idxP p0.a p0.len z1.snd fun (a2 : Addr) =>
                    loadP (cI IntKind.u8) (a2.add (z1.snd.toNat * (1 : Nat))) h2 fun (n2 : Int) =>
                      condP (decide (n2 < (128 : Int)))
                        (callP Try.prog (125 : Nat) [Value.int IntKind.u64 (orI IntKind.u64 z1.fst (shlI IntKind.u64 (IntKind.u64.wrap (n1.tmod (128 : Int))) (IntKind.u64.wrap (IntKind.i64.wrap ((7 : Int) * z1.snd)))))] (cI IntKind.i64) h2
                          fun (n3 : Int) (h3 : Hp) =>
                          cutP p0.len p0.cap none (some (IntKind.i64.wrap (z1.snd + (1 : Int)))) fun (k1 k2 : Nat) =>
                            strP (cutA p0.a k1 p0.cap (1 : Nat)) (k2 - k1) h3 fun (u1 : ByteArray) =>
                              callP Try.prog (123 : Nat) [Value.int IntKind.i64 n3] cSl h3 fun (s1 : Sl) (h4 : Hp) =>
                                ((strP (cutA p0.a k1 p0.cap (1 : Nat)) (k2 - k1) h4 fun (u2 : ByteArray) => u2 = u1) ∧ True) ∧
                                  strP s1.a s1.len h4 fun (u3 : ByteArray) => condP (!strEq u3 u1) (Q ((0 : Int), (0 : Int), false) h4) (Q (n3, IntKind.i64.wrap (z1.snd + (1 : Int)), true) h4))
                        (J1 (orI IntKind.u64 z1.fst (shlI IntKind.u64 (IntKind.u64.wrap (n1.tmod (128 : Int))) (IntKind.u64.wrap (IntKind.i64.wrap ((7 : Int) * z1.snd)))), IntKind.i64.wrap (z1.snd + (1 : Int))) h2))
          (Q ((0 : Int), (0 : Int), false) h2))
      fun (J2 : Bool → Hp → Prop) => condP (decide (z1.snd < (↑p0.len : Int))) (J2 (decide (z1.snd < (10 : Int))) h1) (J2 false h1)
theorem e69 (p0 : Sl) (h : Hp) (Q : Int × Int × Bool → Hp → Prop) : fnD a69 Try.prog 69 n69 (tupC [cI .i64, cI .i64, cB]) [Value.slice p0.a p0.len p0.cap] h Q = F69 p0 h Q := by kernel_rfl
theorem c69 {p0 : Sl} {h : Hp} {Q : Int × Int × Bool → Hp → Prop} (hk : F69 p0 h Q) : callP Try.prog 69 [Value.slice p0.a p0.len p0.cap] (tupC [cI .i64, cI .i64, cB]) h Q :=
  spec_of (prem_of prog_ok dep_ok eqs_ok rfl (by kernel_rfl)) mix_ok ((e69 p0 h Q).mpr hk)
def a70 : Ann := { prom := 0, refs := [], dyn := 0, bcd := fun s => match s with | _ => none, eqs := memL eqL, cdc := cdcs, res := ress, pure := memL [97], pan := memL [122, 137] }
def n70 : An := (.seq (.reg []) (.seq (.seq (.reg []) (.cond (.seq (.reg []) .leaf) .leaf)) (.seq (.reg []) (.seq (.reg []) .leaf))))
/-- consols/frame.Put -/
def F70 (p0 : Sl) (h : Hp) (Q : Sl × Bool → Hp → Prop) : Prop :=
  condP (decide ((↑p0.len : Int) > (80 : Int))) (Q ({ a := none, len := (0 : Nat), cap := (0 : Nat) : Sl }, false) h)
    (allocP (Obj.cells { toList := [Value.int IntKind.u8 (197 : Int), Value.int IntKind.u8 (IntKind.u8.wrap (↑p0.len : Int))] : Array Value } (5 : Nat)) h fun (k1 : Nat) (h1 : Hp) =>
      allocP (Obj.cells { toList := [Value.slice (some { block := k1, off := (0 : Nat) : Addr }) (2 : Nat) (2 : Nat), Value.slice p0.a p0.len p0.cap] : Array Value } (25 : Nat)) h1 fun (k2 : Nat) (h2 : Hp) =>
        callP Try.prog (128 : Nat) [Value.slice (some { block := k2, off := (0 : Nat) : Addr }) (2 : Nat) (2 : Nat)] (cI IntKind.u32) h2 fun (n1 : Int) (h3 : Hp) =>
          callP Try.prog (127 : Nat) [Value.int IntKind.u32 n1] cSl h3 fun (s1 : Sl) (h4 : Hp) =>
            allocP (Obj.cells { toList := [Value.slice (some { block := k1, off := (0 : Nat) : Addr }) (2 : Nat) (2 : Nat), Value.slice p0.a p0.len p0.cap, Value.slice s1.a s1.len s1.cap] : Array Value } (25 : Nat)) h4
              fun (k3 : Nat) (h5 : Hp) => callP Try.prog (126 : Nat) [Value.slice (some { block := k3, off := (0 : Nat) : Addr }) (3 : Nat) (3 : Nat)] cSl h5 fun (s2 : Sl) (h6 : Hp) => Q (s2, true) h6)
theorem e70 (p0 : Sl) (h : Hp) (Q : Sl × Bool → Hp → Prop) : fnD a70 Try.prog 70 n70 (tupC [cSl, cB]) [Value.slice p0.a p0.len p0.cap] h Q = F70 p0 h Q := by kernel_rfl
theorem c70 {p0 : Sl} {h : Hp} {Q : Sl × Bool → Hp → Prop} (hk : F70 p0 h Q) : callP Try.prog 70 [Value.slice p0.a p0.len p0.cap] (tupC [cSl, cB]) h Q :=
  spec_of (prem_of prog_ok dep_ok eqs_ok rfl (by kernel_rfl)) mix_ok ((e70 p0 h Q).mpr hk)
def a71 : Ann := { prom := 0, refs := [], dyn := 0, bcd := fun s => match s with | _ => none, eqs := memL eqL, cdc := cdcs, res := ress, pure := memL [97], pan := memL [122, 137] }
def n71 : An := (.seq (.reg []) (.seq (.seq (.reg []) (.cond (.seq (.reg []) .leaf) .leaf)) (.seq (.reg []) (.seq (.reg []) (.seq (.reg []) .leaf)))))
/-- consols/consolsref6.Put -/
def F71 (p0 : Sl) (h : Hp) (Q : Sl × Bool → Hp → Prop) : Prop :=
  condP (decide ((↑p0.len : Int) > (80 : Int))) (Q ({ a := none, len := (0 : Nat), cap := (0 : Nat) : Sl }, false) h)
    (allocP (Obj.cells { toList := [Value.int IntKind.u8 (197 : Int), Value.int IntKind.u8 (IntKind.u8.wrap (↑p0.len : Int))] : Array Value } (5 : Nat)) h fun (k1 : Nat) (h1 : Hp) =>
      appendP (cI IntKind.u8) (5 : Nat) (1 : Nat) (some { block := k1, off := (0 : Nat) : Addr }) (2 : Nat) (2 : Nat) p0.a p0.len h1 fun (p1 : Option Addr) (k2 k3 : Nat) (h2 : Hp) =>
        callP Try.prog (129 : Nat) [Value.slice p1 k2 k3] (cI IntKind.u32) h2 fun (n1 : Int) (h3 : Hp) =>
          (0 : Int) ≤ (24 : Int) ∧
            (0 : Int) ≤ (16 : Int) ∧
              (0 : Int) ≤ (8 : Int) ∧
                allocP
                  (Obj.cells
                    {
                      toList :=
                        [Value.int IntKind.u8 (IntKind.u8.wrap (shrI IntKind.u32 n1 (24 : Int))), Value.int IntKind.u8 (IntKind.u8.wrap (shrI IntKind.u32 n1 (16 : Int))),
                          Value.int IntKind.u8 (IntKind.u8.wrap (shrI IntKind.u32 n1 (8 : Int))), Value.int IntKind.u8 (IntKind.u8.wrap n1)] :
                      Array Value }
                    (5 : Nat))
                  h3 fun (k4 : Nat) (h4 : Hp) =>
                  appendP (cI IntKind.u8) (5 : Nat) (1 : Nat) p1 k2 k3 (some { block := k4, off := (0 : Nat) : Addr }) (4 : Nat) h4 fun (p2 : Option Addr) (k5 k6 : Nat) (h5 : Hp) => Q ({ a := p2, len := k5, cap := k6 : Sl }, true) h5)
theorem e71 (p0 : Sl) (h : Hp) (Q : Sl × Bool → Hp → Prop) : fnD a71 Try.prog 71 n71 (tupC [cSl, cB]) [Value.slice p0.a p0.len p0.cap] h Q = F71 p0 h Q := by kernel_rfl
theorem c71 {p0 : Sl} {h : Hp} {Q : Sl × Bool → Hp → Prop} (hk : F71 p0 h Q) : callP Try.prog 71 [Value.slice p0.a p0.len p0.cap] (tupC [cSl, cB]) h Q :=
  spec_of (prem_of prog_ok dep_ok eqs_ok rfl (by kernel_rfl)) mix_ok ((e71 p0 h Q).mpr hk)
def a72 : Ann := { prom := 0, refs := [], dyn := 0, bcd := fun s => match s with | _ => none, eqs := memL eqL, cdc := cdcs, res := ress, pure := memL [97], pan := memL [122, 137] }
def n72 : An := (.seq (.reg []) (.seq (.reg []) (.seq (.reg []) (.seq (.reg []) .leaf))))
/-- consols/consolslaw6.known -/
def F72  (h : Hp) (Q : Bool → Hp → Prop) : Prop :=
  callP Try.prog (70 : Nat) [Value.slice none (0 : Nat) (0 : Nat)] (tupC [cSl, cB]) h fun (z1 : Sl × Bool) (h1 : Hp) =>
    callP Try.prog (73 : Nat) [Value.slice z1.fst.a z1.fst.len z1.fst.cap] (tupC [cSl, cI IntKind.i64, cB]) h1 fun (z2 : Sl × Int × Bool) (h2 : Hp) =>
      condP z1.snd
        (strP z1.fst.a z1.fst.len h2 fun (u1 : ByteArray) =>
          condP (strEq u1 { data := #[(197 : UInt8), (0 : UInt8), (1 : UInt8), (141 : UInt8), (0 : UInt8), (199 : UInt8)] : ByteArray })
            (condP z2.snd.snd (condP (z2.snd.fst == (6 : Int)) (Q ((↑z2.fst.len : Int) == (0 : Int)) h2) (Q false h2)) (Q false h2)) (Q false h2))
        (Q false h2)
theorem e72  (h : Hp) (Q : Bool → Hp → Prop) : fnD a72 Try.prog 72 n72 (cB) [] h Q = F72  h Q := by kernel_rfl
theorem c72  {h : Hp} {Q : Bool → Hp → Prop} (hk : F72  h Q) : callP Try.prog 72 [] (cB) h Q :=
  spec_of (prem_of prog_ok dep_ok eqs_ok rfl (by kernel_rfl)) mix_ok ((e72  h Q).mpr hk)
def a73 : Ann := { prom := 0, refs := [], dyn := 0, bcd := fun s => match s with | _ => none, eqs := memL eqL, cdc := cdcs, res := ress, pure := memL [97], pan := memL [122, 137] }
def n73 : An := (.seq (.reg []) (.seq (.join [(19, false, cB)] 1048544 (.reg []) (.cond (.seq (.reg []) .leaf) .leaf)) (.seq (.reg []) (.seq (.join [(44, false, cB)] 35184338534400 (.reg [(0, []), (1, []), (2, []), (3, []), (4, []), (5, []), (6, []), (7, []), (8, []), (12, []), (13, []), (14, []), (15, []), (16, []), (9, []), (10, []), (11, []), (17, []), (18, []), (19, [])]) (.cond (.seq (.reg []) .leaf) .leaf)) (.seq (.reg []) .leaf)))))
/-- consols/frame.Get -/
def F73 (p0 : Sl) (h : Hp) (Q : Sl × Int × Bool → Hp → Prop) : Prop :=
  joinP
    (fun (t1 : Bool) (h1 : Hp) =>
      condP t1 (Q ({ a := none, len := (0 : Nat), cap := (0 : Nat) : Sl }, (0 : Int), false) h1)
        (idxP p0.a p0.len (1 : Int) fun (a1 : Addr) =>
          loadP (cI IntKind.u8) { block := a1.block, off := a1.off + (1 : Nat) : Addr } h1 fun (n1 : Int) =>
            joinP
              (fun (t2 : Bool) (h2 : Hp) =>
                condP t2 (Q ({ a := none, len := (0 : Nat), cap := (0 : Nat) : Sl }, (0 : Int), false) h2)
                  (cutP p0.len p0.cap (some (2 : Int)) (some (IntKind.i64.wrap ((2 : Int) + IntKind.i64.wrap n1))) fun (k1 k2 : Nat) =>
                    callP Try.prog (117 : Nat) [Value.slice (cutA p0.a k1 p0.cap (1 : Nat)) (k2 - k1) (p0.cap - k1)] cSl h2 fun (s1 : Sl) (h3 : Hp) =>
                      Q (s1, IntKind.i64.wrap (IntKind.i64.wrap ((2 : Int) + IntKind.i64.wrap n1) + (4 : Int)), true) h3))
              fun (J1 : Bool → Hp → Prop) =>
              condP (decide ((↑p0.len : Int) < IntKind.i64.wrap (IntKind.i64.wrap ((2 : Int) + IntKind.i64.wrap n1) + (4 : Int)))) (J1 true h1)
                (cutP p0.len p0.cap none (some (IntKind.i64.wrap ((2 : Int) + IntKind.i64.wrap n1))) fun (k3 k4 : Nat) =>
                  cutP p0.len p0.cap (some (IntKind.i64.wrap ((2 : Int) + IntKind.i64.wrap n1))) (some (IntKind.i64.wrap (IntKind.i64.wrap ((2 : Int) + IntKind.i64.wrap n1) + (4 : Int)))) fun (k5 k6 : Nat) =>
                    allocP (Obj.cells { toList := [Value.slice (cutA p0.a k3 p0.cap (1 : Nat)) (k4 - k3) (p0.cap - k3)] : Array Value } (25 : Nat)) h1 fun (k7 : Nat) (h4 : Hp) =>
                      callP Try.prog (128 : Nat) [Value.slice (some { block := k7, off := (0 : Nat) : Addr }) (1 : Nat) (1 : Nat)] (cI IntKind.u32) h4 fun (n2 : Int) (h5 : Hp) =>
                        callP Try.prog (127 : Nat) [Value.int IntKind.u32 n2] cSl h5 fun (s2 : Sl) (h6 : Hp) =>
                          callP Try.prog (130 : Nat) [Value.slice s2.a s2.len s2.cap, Value.slice (cutA p0.a k5 p0.cap (1 : Nat)) (k6 - k5) (p0.cap - k5)] cB h6 fun (t3 : Bool) (h7 : Hp) => J1 (!t3) h7)))
    fun (J2 : Bool → Hp → Prop) =>
    condP (decide ((↑p0.len : Int) < (2 : Int))) (J2 true h)
      (idxP p0.a p0.len (0 : Int) fun (a2 : Addr) =>
        loadP (cI IntKind.u8) (a2.add (0 : Nat)) h fun (n3 : Int) =>
          condP (n3 != (197 : Int)) (J2 true h) (idxP p0.a p0.len (1 : Int) fun (a3 : Addr) => loadP (cI IntKind.u8) { block := a3.block, off := a3.off + (1 : Nat) : Addr } h fun (n4 : Int) => J2 (decide (n4 > (80 : Int))) h))
theorem e73 (p0 : Sl) (h : Hp) (Q : Sl × Int × Bool → Hp → Prop) : fnD a73 Try.prog 73 n73 (tupC [cSl, cI .i64, cB]) [Value.slice p0.a p0.len p0.cap] h Q = F73 p0 h Q := by kernel_rfl
theorem c73 {p0 : Sl} {h : Hp} {Q : Sl × Int × Bool → Hp → Prop} (hk : F73 p0 h Q) : callP Try.prog 73 [Value.slice p0.a p0.len p0.cap] (tupC [cSl, cI .i64, cB]) h Q :=
  spec_of (prem_of prog_ok dep_ok eqs_ok rfl (by kernel_rfl)) mix_ok ((e73 p0 h Q).mpr hk)
def a74 : Ann := { prom := 0, refs := [], dyn := 0, bcd := fun s => match s with | _ => none, eqs := memL eqL, cdc := cdcs, res := ress, pure := memL [97], pan := memL [122, 137] }
def n74 : An := (.seq (.reg []) (.seq (.join [(34, false, cB)] 34359737856 (.reg []) (.cond (.seq (.reg []) .leaf) .leaf)) (.seq (.reg []) (.seq (.reg []) (.seq (.reg []) (.seq (.seq (.reg [(0, []), (2, []), (3, []), (4, []), (1, []), (5, []), (6, [])]) (.cond (.seq (.reg []) .leaf) .leaf)) (.seq (.reg []) .leaf)))))))
/-- consols/consolsref6.Get -/
def F74 (p0 : Sl) (h : Hp) (Q : Sl × Int × Bool → Hp → Prop) : Prop :=
  joinP
    (fun (t1 : Bool) (h1 : Hp) =>
      condP t1 (Q ({ a := none, len := (0 : Nat), cap := (0 : Nat) : Sl }, (0 : Int), false) h1)
        (idxP p0.a p0.len (1 : Int) fun (a1 : Addr) =>
          loadP (cI IntKind.u8) { block := a1.block, off := a1.off + (1 : Nat) : Addr } h1 fun (n1 : Int) =>
            allocP (Obj.cells { toList := [] : Array Value } (5 : Nat)) h1 fun (k1 : Nat) (h2 : Hp) =>
              cutP p0.len p0.cap (some (2 : Int)) (some (IntKind.i64.wrap (IntKind.i64.wrap ((6 : Int) + IntKind.i64.wrap n1) - (4 : Int)))) fun (k2 k3 : Nat) =>
                appendP (cI IntKind.u8) (5 : Nat) (1 : Nat) (some { block := k1, off := (0 : Nat) : Addr }) (0 : Nat) (0 : Nat) (cutA p0.a k2 p0.cap (1 : Nat)) (k3 - k2) h2 fun (p1 : Option Addr) (k4 k5 : Nat) (h3 : Hp) =>
                  callP Try.prog (71 : Nat) [Value.slice p1 k4 k5] (tupC [cSl, cB]) h3 fun (z1 : Sl × Bool) (h4 : Hp) =>
                    cutP p0.len p0.cap none (some (IntKind.i64.wrap ((6 : Int) + IntKind.i64.wrap n1))) fun (k6 k7 : Nat) =>
                      strP z1.fst.a z1.fst.len h4 fun (u1 : ByteArray) =>
                        strP (cutA p0.a k6 p0.cap (1 : Nat)) (k7 - k6) h4 fun (u2 : ByteArray) =>
                          condP (!strEq u1 u2) (Q ({ a := none, len := (0 : Nat), cap := (0 : Nat) : Sl }, (0 : Int), false) h4) (Q ({ a := p1, len := k4, cap := k5 : Sl }, IntKind.i64.wrap ((6 : Int) + IntKind.i64.wrap n1), true) h4)))
    fun (J1 : Bool → Hp → Prop) =>
    condP (decide ((↑p0.len : Int) < (6 : Int))) (J1 true h)
      (idxP p0.a p0.len (0 : Int) fun (a2 : Addr) =>
        loadP (cI IntKind.u8) (a2.add (0 : Nat)) h fun (n2 : Int) =>
          condP (n2 != (197 : Int)) (J1 true h)
            (idxP p0.a p0.len (1 : Int) fun (a3 : Addr) =>
              loadP (cI IntKind.u8) { block := a3.block, off := a3.off + (1 : Nat) : Addr } h fun (n3 : Int) =>
                condP (decide (IntKind.i64.wrap n3 > (80 : Int))) (J1 true h)
                  (idxP p0.a p0.len (1 : Int) fun (a4 : Addr) =>
                    loadP (cI IntKind.u8) { block := a4.block, off := a4.off + (1 : Nat) : Addr } h fun (n4 : Int) => J1 (decide ((↑p0.len : Int) < IntKind.i64.wrap ((6 : Int) + IntKind.i64.wrap n4))) h)))
theorem e74 (p0 : Sl) (h : Hp) (Q : Sl × Int × Bool → Hp → Prop) : fnD a74 Try.prog 74 n74 (tupC [cSl, cI .i64, cB]) [Value.slice p0.a p0.len p0.cap] h Q = F74 p0 h Q := by kernel_rfl
theorem c74 {p0 : Sl} {h : Hp} {Q : Sl × Int × Bool → Hp → Prop} (hk : F74 p0 h Q) : callP Try.prog 74 [Value.slice p0.a p0.len p0.cap] (tupC [cSl, cI .i64, cB]) h Q :=
  spec_of (prem_of prog_ok dep_ok eqs_ok rfl (by kernel_rfl)) mix_ok ((e74 p0 h Q).mpr hk)
def a75 : Ann := { prom := 0, refs := [], dyn := 0, bcd := fun s => match s with | _ => none, eqs := memL eqL, cdc := cdcs, res := ress, pure := memL [97], pan := memL [122, 137] }
def n75 : An := (.seq (.reg []) (.seq (.reg []) .leaf))
/-- consols/flow.New -/
def F75  (h : Hp) (Q : Option Addr → Hp → Prop) : Prop :=
  allocP (Obj.cells { toList := [Value.slice none (0 : Nat) (0 : Nat), Value.int IntKind.i64 (0 : Int)] : Array Value } (158 : Nat)) h fun (k1 : Nat) (h1 : Hp) => Q (some { block := k1, off := (0 : Nat) : Addr }) h1
theorem e75  (h : Hp) (Q : Option Addr → Hp → Prop) : fnD a75 Try.prog 75 n75 (cP) [] h Q = F75  h Q := by kernel_rfl
theorem c75  {h : Hp} {Q : Option Addr → Hp → Prop} (hk : F75  h Q) : callP Try.prog 75 [] (cP) h Q :=
  spec_of (prem_of prog_ok dep_ok eqs_ok rfl (by kernel_rfl)) mix_ok ((e75  h Q).mpr hk)
def a76 : Ann := { prom := 0, refs := [], dyn := 0, bcd := fun s => match s with | _ => none, eqs := memL eqL, cdc := cdcs, res := ress, pure := memL [97], pan := memL [122, 137] }
def n76 : An := (.seq (.reg []) (.seq (.seq (.reg []) (.cond (.seq (.reg []) .leaf) .leaf)) (.seq (.seq (.reg []) (.block (.loop [(5, false, cI .i64)] 268433456 (.seq (.seq (.reg []) (.cond .leaf .leaf)) (.seq (.block (.seq (.reg [(0, []), (1, []), (2, []), (5, []), (6, []), (7, []), (3, []), (4, []), (8, []), (9, []), (10, [])]) (.cond (.seq (.reg []) .leaf) .leaf))) (.reg [])))))) (.seq (.reg []) .leaf))))
/-- consols/consolsref7.Same -/
def F76 (p0 : Sl) (p1 : Sl) (h : Hp) (Q : Bool → Hp → Prop) : Prop :=
  condP ((↑p0.len : Int) != (↑p1.len : Int)) (Q false h)
    (loopP (0 : Int) h fun (J1 : Int → Hp → Prop) (n1 : Int) (h1 : Hp) =>
      condP (decide (n1 < (↑p0.len : Int)))
        (idxP p0.a p0.len n1 fun (a1 : Addr) =>
          idxP p1.a p1.len n1 fun (a2 : Addr) =>
            loadP cSl (a1.add (n1.toNat * (1 : Nat))) h1 fun (s1 : Sl) =>
              strP s1.a s1.len h1 fun (u1 : ByteArray) =>
                loadP cSl (a2.add (n1.toNat * (1 : Nat))) h1 fun (s2 : Sl) => strP s2.a s2.len h1 fun (u2 : ByteArray) => condP (!strEq u1 u2) (Q false h1) (J1 (IntKind.i64.wrap (n1 + (1 : Int))) h1))
        (Q true h1))
theorem e76 (p0 : Sl) (p1 : Sl) (h : Hp) (Q : Bool → Hp → Prop) : fnD a76 Try.prog 76 n76 (cB) [Value.slice p0.a p0.len p0.cap, Value.slice p1.a p1.len p1.cap] h Q = F76 p0 p1 h Q := by kernel_rfl
theorem c76 {p0 : Sl} {p1 : Sl} {h : Hp} {Q : Bool → Hp → Prop} (hk : F76 p0 p1 h Q) : callP Try.prog 76 [Value.slice p0.a p0.len p0.cap, Value.slice p1.a p1.len p1.cap] (cB) h Q :=
  spec_of (prem_of prog_ok dep_ok eqs_ok rfl (by kernel_rfl)) mix_ok ((e76 p0 p1 h Q).mpr hk)
def a77 : Ann := { prom := 0, refs := [], dyn := 0, bcd := fun s => match s with | _ => none, eqs := memL eqL, cdc := cdcs, res := ress, pure := memL [97], pan := memL [122, 137] }
def n77 : An := (.seq (.reg []) (.seq (.seq (.reg []) (.cond (.seq (.reg []) .leaf) .leaf)) (.seq (.reg []) (.seq (.reg []) (.seq (.block (.loop [(5, false, cSl), (6, false, cSl)] 562949953160160 (.seq (.join [(25, false, cB)] 66846720 (.reg []) (.cond .leaf .leaf)) (.blockJ [(5, false, cSl), (6, false, cSl)] 562949886313440 (.seq (.reg []) (.seq (.seq (.reg []) (.cond (.seq (.reg []) (.seq (.reg []) .leaf)) .leaf)) (.seq (.reg []) (.reg [])))))))) (.seq (.reg []) (.seq (.reg []) .leaf)))))))
/-- (*consols/flow.Flow).Push -/
def F77 (p0 : Option Addr) (p1 : Sl) (h : Hp) (Q : Sl → Hp → Prop) : Prop :=
  condP p0.isNone (Q { a := none, len := (0 : Nat), cap := (0 : Nat) : Sl } h)
    (nilP p0 fun (a1 : Addr) =>
      loadP cSl (a1.add (0 : Nat)) h fun (s1 : Sl) =>
        appendP (cI IntKind.u8) (5 : Nat) (1 : Nat) s1.a s1.len s1.cap p1.a p1.len h fun (p1 : Option Addr) (k1 k2 : Nat) (h1 : Hp) =>
          loopP ({ a := none, len := (0 : Nat), cap := (0 : Nat) : Sl }, { a := p1, len := k1, cap := k2 : Sl }) h1 fun (J1 : Sl × Sl → Hp → Prop) (z1 : Sl × Sl) (h2 : Hp) =>
            joinP
              (fun (t1 : Bool) (h3 : Hp) =>
                condP t1
                  (joinP (fun (z2 : Sl × Sl) (h4 : Hp) => J1 (z2.fst, z2.snd) h4) fun (J2 : Sl × Sl → Hp → Prop) =>
                    callP Try.prog (73 : Nat) [Value.slice z1.snd.a z1.snd.len z1.snd.cap] (tupC [cSl, cI IntKind.i64, cB]) h3 fun (z3 : Sl × Int × Bool) (h5 : Hp) =>
                      condP z3.snd.snd
                        (allocP (Obj.cells { toList := [Value.slice z3.fst.a z3.fst.len z3.fst.cap] : Array Value } (25 : Nat)) h5 fun (k3 : Nat) (h6 : Hp) =>
                          appendP cSl (25 : Nat) (24 : Nat) z1.fst.a z1.fst.len z1.fst.cap (some { block := k3, off := (0 : Nat) : Addr }) (1 : Nat) h6 fun (p2 : Option Addr) (k4 k5 : Nat) (h7 : Hp) =>
                            cutP z1.snd.len z1.snd.cap (some z3.snd.fst) none fun (k6 k7 : Nat) => J2 ({ a := p2, len := k4, cap := k5 : Sl }, { a := cutA z1.snd.a k6 z1.snd.cap (1 : Nat), len := k7 - k6, cap := z1.snd.cap - k6 : Sl }) h7)
                        (nilP p0 fun (a2 : Addr) =>
                          loadP (cI IntKind.i64) { block := a2.block, off := a2.off + (1 : Nat) : Addr } h5 fun (n1 : Int) =>
                            nilP p0 fun (a3 : Addr) =>
                              storeP (cI IntKind.i64) { block := a3.block, off := a3.off + (1 : Nat) : Addr } (IntKind.i64.wrap (n1 + (1 : Int))) h5 fun (h8 : Hp) =>
                                cutP z1.snd.len z1.snd.cap (some (1 : Int)) none fun (k8 k9 : Nat) => J2 (z1.fst, { a := cutA z1.snd.a k8 z1.snd.cap (1 : Nat), len := k9 - k8, cap := z1.snd.cap - k8 : Sl }) h8))
                  (allocP (Obj.cells { toList := [] : Array Value } (5 : Nat)) h3 fun (k10 : Nat) (h9 : Hp) =>
                    appendP (cI IntKind.u8) (5 : Nat) (1 : Nat) (some { block := k10, off := (0 : Nat) : Addr }) (0 : Nat) (0 : Nat) z1.snd.a z1.snd.len h9 fun (p3 : Option Addr) (k11 k12 : Nat) (h10 : Hp) =>
                      nilP p0 fun (a4 : Addr) => storeP cSl (a4.add (0 : Nat)) { a := p3, len := k11, cap := k12 : Sl } h10 fun (h11 : Hp) => Q z1.fst h11))
              fun (J3 : Bool → Hp → Prop) => condP (decide ((↑z1.snd.len : Int) > (0 : Int))) (callP Try.prog (131 : Nat) [Value.slice z1.snd.a z1.snd.len z1.snd.cap] cB h2 fun (t2 : Bool) (h12 : Hp) => J3 (!t2) h12) (J3 false h2))
theorem e77 (p0 : Option Addr) (p1 : Sl) (h : Hp) (Q : Sl → Hp → Prop) : fnD a77 Try.prog 77 n77 (cSl) [Value.pointer p0, Value.slice p1.a p1.len p1.cap] h Q = F77 p0 p1 h Q := by kernel_rfl
theorem c77 {p0 : Option Addr} {p1 : Sl} {h : Hp} {Q : Sl → Hp → Prop} (hk : F77 p0 p1 h Q) : callP Try.prog 77 [Value.pointer p0, Value.slice p1.a p1.len p1.cap] (cSl) h Q :=
  spec_of (prem_of prog_ok dep_ok eqs_ok rfl (by kernel_rfl)) mix_ok ((e77 p0 p1 h Q).mpr hk)
def a78 : Ann := { prom := 0, refs := [], dyn := 0, bcd := fun s => match s with | _ => none, eqs := memL eqL, cdc := cdcs, res := ress, pure := memL [97], pan := memL [122, 137] }
def n78 : An := (.seq (.reg []) (.seq (.reg []) (.seq (.reg []) (.seq (.blockJ [(5, false, cSl)] 590295810358704603616 (.loop [(5, false, cSl)] 590295810358704603616 (.seq (.seq (.reg []) (.cond .leaf .leaf)) (.blockJ [(5, false, cSl)] 590295810358638543328 (.seq (.reg []) (.seq (.seq (.reg []) (.cond (.seq (.reg []) (.seq (.reg []) .leaf)) .leaf)) (.seq (.seq (.reg []) (.cond .leaf .leaf)) (.seq (.reg []) (.reg []))))))))) (.seq (.reg []) .leaf)))))
/-- (*consols/consolsref7.Flow).Push -/
def F78 (p0 : Option Addr) (p1 : Sl) (h : Hp) (Q : Sl → Hp → Prop) : Prop :=
  allocP (Obj.cells { toList := [] : Array Value } (5 : Nat)) h fun (k1 : Nat) (h1 : Hp) =>
    nilP p0 fun (a1 : Addr) =>
      loadP cSl (a1.add (0 : Nat)) h1 fun (s1 : Sl) =>
        appendP (cI IntKind.u8) (5 : Nat) (1 : Nat) (some { block := k1, off := (0 : Nat) : Addr }) (0 : Nat) (0 : Nat) s1.a s1.len h1 fun (p1_1 : Option Addr) (k2 k3 : Nat) (h2 : Hp) =>
          appendP (cI IntKind.u8) (5 : Nat) (1 : Nat) p1_1 k2 k3 p1.a p1.len h2 fun (p2 : Option Addr) (k4 k5 : Nat) (h3 : Hp) =>
            nilP p0 fun (a2 : Addr) =>
              storeP cSl (a2.add (0 : Nat)) { a := p2, len := k4, cap := k5 : Sl } h3 fun (h4 : Hp) =>
                joinP (fun (s2 : Sl) (h5 : Hp) => Q s2 h5) fun (J1 : Sl → Hp → Prop) =>
                  loopP { a := none, len := (0 : Nat), cap := (0 : Nat) : Sl } h4 fun (J2 : Sl → Hp → Prop) (s3 : Sl) (h6 : Hp) =>
                    nilP p0 fun (a3 : Addr) =>
                      loadP cSl (a3.add (0 : Nat)) h6 fun (s4 : Sl) =>
                        condP (decide ((↑s4.len : Int) > (0 : Int)))
                          (joinP (fun (s5 : Sl) (h7 : Hp) => J2 s5 h7) fun (J3 : Sl → Hp → Prop) =>
                            nilP p0 fun (a4 : Addr) =>
                              loadP cSl (a4.add (0 : Nat)) h6 fun (s6 : Sl) =>
                                callP Try.prog (74 : Nat) [Value.slice s6.a s6.len s6.cap] (tupC [cSl, cI IntKind.i64, cB]) h6 fun (z1 : Sl × Int × Bool) (h8 : Hp) =>
                                  condP z1.snd.snd
                                    (allocP (Obj.cells { toList := [Value.slice z1.fst.a z1.fst.len z1.fst.cap] : Array Value } (25 : Nat)) h8 fun (k6 : Nat) (h9 : Hp) =>
                                      appendP cSl (25 : Nat) (24 : Nat) s3.a s3.len s3.cap (some { block := k6, off := (0 : Nat) : Addr }) (1 : Nat) h9 fun (p3 : Option Addr) (k7 k8 : Nat) (h10 : Hp) =>
                                        nilP p0 fun (a5 : Addr) =>
                                          loadP cSl (a5.add (0 : Nat)) h10 fun (s7 : Sl) =>
                                            cutP s7.len s7.cap (some z1.snd.fst) none fun (k9 k10 : Nat) =>
                                              nilP p0 fun (a6 : Addr) =>
                                                storeP cSl (a6.add (0 : Nat)) { a := cutA s7.a k9 s7.cap (1 : Nat), len := k10 - k9, cap := s7.cap - k9 : Sl } h10 fun (h11 : Hp) => J3 { a := p3, len := k7, cap := k8 : Sl } h11)
                                    (nilP p0 fun (a7 : Addr) =>
                                      loadP cSl (a7.add (0 : Nat)) h8 fun (s8 : Sl) =>
                                        callP Try.prog (132 : Nat) [Value.slice s8.a s8.len s8.cap] cB h8 fun (t1 : Bool) (h12 : Hp) =>
                                          condP t1 (J1 s3 h12)
                                            (nilP p0 fun (a8 : Addr) =>
                                              loadP cSl (a8.add (0 : Nat)) h12 fun (s9 : Sl) =>
                                                cutP s9.len s9.cap (some (1 : Int)) none fun (k11 k12 : Nat) =>
                                                  nilP p0 fun (a9 : Addr) =>
                                                    storeP cSl (a9.add (0 : Nat)) { a := cutA s9.a k11 s9.cap (1 : Nat), len := k12 - k11, cap := s9.cap - k11 : Sl } h12 fun (h13 : Hp) =>
                                                      nilP p0 fun (a10 : Addr) =>
                                                        loadP (cI IntKind.i64) { block := a10.block, off := a10.off + (1 : Nat) : Addr } h13 fun (n1 : Int) =>
                                                          nilP p0 fun (a11 : Addr) => storeP (cI IntKind.i64) { block := a11.block, off := a11.off + (1 : Nat) : Addr } (IntKind.i64.wrap (n1 + (1 : Int))) h13 fun (h14 : Hp) => J3 s3 h14)))
                          (J1 s3 h6)
theorem e78 (p0 : Option Addr) (p1 : Sl) (h : Hp) (Q : Sl → Hp → Prop) : fnD a78 Try.prog 78 n78 (cSl) [Value.pointer p0, Value.slice p1.a p1.len p1.cap] h Q = F78 p0 p1 h Q := by kernel_rfl
theorem c78 {p0 : Option Addr} {p1 : Sl} {h : Hp} {Q : Sl → Hp → Prop} (hk : F78 p0 p1 h Q) : callP Try.prog 78 [Value.pointer p0, Value.slice p1.a p1.len p1.cap] (cSl) h Q :=
  spec_of (prem_of prog_ok dep_ok eqs_ok rfl (by kernel_rfl)) mix_ok ((e78 p0 p1 h Q).mpr hk)
def a79 : Ann := { prom := 0, refs := [], dyn := 0, bcd := fun s => match s with | _ => none, eqs := memL eqL, cdc := cdcs, res := ress, pure := memL [97], pan := memL [122, 137] }
def n79 : An := (.seq (.reg []) (.seq (.seq (.reg []) (.cond (.seq (.reg []) .leaf) .leaf)) (.seq (.reg []) .leaf)))
/-- (*consols/flow.Flow).Lost -/
def F79 (p0 : Option Addr) (h : Hp) (Q : Int → Hp → Prop) : Prop :=
 condP p0.isNone (Q (0 : Int) h) (nilP p0 fun (a1 : Addr) => loadP (cI IntKind.i64) { block := a1.block, off := a1.off + (1 : Nat) : Addr } h fun (n1 : Int) => Q n1 h)
theorem e79 (p0 : Option Addr) (h : Hp) (Q : Int → Hp → Prop) : fnD a79 Try.prog 79 n79 (cI .i64) [Value.pointer p0] h Q = F79 p0 h Q := by kernel_rfl
theorem c79 {p0 : Option Addr} {h : Hp} {Q : Int → Hp → Prop} (hk : F79 p0 h Q) : callP Try.prog 79 [Value.pointer p0] (cI .i64) h Q :=
  spec_of (prem_of prog_ok dep_ok eqs_ok rfl (by kernel_rfl)) mix_ok ((e79 p0 h Q).mpr hk)
def a80 : Ann := { prom := 0, refs := [], dyn := 0, bcd := fun s => match s with | _ => none, eqs := memL eqL, cdc := cdcs, res := ress, pure := memL [97], pan := memL [122, 137] }
def n80 : An := (.seq (.reg []) (.seq (.seq (.reg []) (.cond (.seq (.reg []) .leaf) .leaf)) (.seq (.reg []) .leaf)))
/-- (*consols/flow.Flow).Held -/
def F80 (p0 : Option Addr) (h : Hp) (Q : Int → Hp → Prop) : Prop :=
 condP p0.isNone (Q (0 : Int) h) (nilP p0 fun (a1 : Addr) => loadP cSl (a1.add (0 : Nat)) h fun (s1 : Sl) => Q (↑s1.len : Int) h)
theorem e80 (p0 : Option Addr) (h : Hp) (Q : Int → Hp → Prop) : fnD a80 Try.prog 80 n80 (cI .i64) [Value.pointer p0] h Q = F80 p0 h Q := by kernel_rfl
theorem c80 {p0 : Option Addr} {h : Hp} {Q : Int → Hp → Prop} (hk : F80 p0 h Q) : callP Try.prog 80 [Value.pointer p0] (cI .i64) h Q :=
  spec_of (prem_of prog_ok dep_ok eqs_ok rfl (by kernel_rfl)) mix_ok ((e80 p0 h Q).mpr hk)
def a81 : Ann := { prom := 0, refs := [], dyn := 0, bcd := fun s => match s with | _ => none, eqs := memL eqL, cdc := cdcs, res := ress, pure := memL [97], pan := memL [122, 137] }
def n81 : An := (.seq (.reg []) (.seq (.reg []) (.seq (.reg []) (.seq (.reg []) (.seq (.reg []) .leaf)))))
/-- consols/consolslaw7.known -/
def F81  (h : Hp) (Q : Bool → Hp → Prop) : Prop :=
  allocP (Obj.cells { toList := [Value.int IntKind.u8 (120 : Int)] : Array Value } (5 : Nat)) h fun (k1 : Nat) (h1 : Hp) =>
    markP { block := k1, off := (0 : Nat) : Addr } h1 fun (h2 : Hp) =>
      callP Try.prog (71 : Nat) [Value.slice (some { block := k1, off := (0 : Nat) : Addr }) (1 : Nat) (1 : Nat)] (tupC [cSl, cB]) h2 fun (z1 : Sl × Bool) (h3 : Hp) =>
        callP Try.prog (75 : Nat) [] cP h3 fun (p1 : Option Addr) (h4 : Hp) =>
          allocP (Obj.cells { toList := [Value.int IntKind.u8 (0 : Int)] : Array Value } (5 : Nat)) h4 fun (k2 : Nat) (h5 : Hp) =>
            appendP (cI IntKind.u8) (5 : Nat) (1 : Nat) (some { block := k2, off := (0 : Nat) : Addr }) (1 : Nat) (1 : Nat) z1.fst.a z1.fst.len h5 fun (p2 : Option Addr) (k3 k4 : Nat) (h6 : Hp) =>
              callP Try.prog (77 : Nat) [Value.pointer p1, Value.slice p2 k3 k4] cSl h6 fun (s1 : Sl) (h7 : Hp) =>
                condP ((↑s1.len : Int) == (1 : Int))
                  (idxP s1.a s1.len (0 : Int) fun (a1 : Addr) =>
                    loadP cSl (a1.add (0 : Nat)) h7 fun (s2 : Sl) =>
                      strP s2.a s2.len h7 fun (u1 : ByteArray) =>
                        condP (strEq u1 { data := #[(120 : UInt8)] : ByteArray })
                          (callP Try.prog (79 : Nat) [Value.pointer p1] (cI IntKind.i64) h7 fun (n1 : Int) (h8 : Hp) =>
                            condP (n1 == (1 : Int)) (callP Try.prog (80 : Nat) [Value.pointer p1] (cI IntKind.i64) h8 fun (n2 : Int) (h9 : Hp) => Q (n2 == (0 : Int)) h9) (Q false h8))
                          (Q false h7))
                  (Q false h7)
theorem e81  (h : Hp) (Q : Bool → Hp → Prop) : fnD a81 Try.prog 81 n81 (cB) [] h Q = F81  h Q := by kernel_rfl
theorem c81  {h : Hp} {Q : Bool → Hp → Prop} (hk : F81  h Q) : callP Try.prog 81 [] (cB) h Q :=
  spec_of (prem_of prog_ok dep_ok eqs_ok rfl (by kernel_rfl)) mix_ok ((e81  h Q).mpr hk)
def a117 : Ann := { prom := 0, refs := [], dyn := 0, bcd := fun s => match s with | _ => none, eqs := memL eqL, cdc := cdcs, res := ress, pure := memL [97], pan := memL [122, 137] }
def n117 : An := (.seq (.reg []) (.seq (.seq (.reg []) (.cond (.seq (.reg []) .leaf) .leaf)) (.seq (.reg []) .leaf)))
/-- bytes.Clone -/
def F117 (p0 : Sl) (h : Hp) (Q : Sl → Hp → Prop) : Prop :=
  condP p0.a.isNone (Q { a := none, len := (0 : Nat), cap := (0 : Nat) : Sl } h)
    (allocP (Obj.cells { toList := [] : Array Value } (5 : Nat)) h fun (k1 : Nat) (h1 : Hp) =>
      appendP (cI IntKind.u8) (5 : Nat) (1 : Nat) (some { block := k1, off := (0 : Nat) : Addr }) (0 : Nat) (0 : Nat) p0.a p0.len h1 fun (p1 : Option Addr) (k2 k3 : Nat) (h2 : Hp) => Q { a := p1, len := k2, cap := k3 : Sl } h2)
theorem e117 (p0 : Sl) (h : Hp) (Q : Sl → Hp → Prop) : fnD a117 Try.prog 117 n117 (cSl) [Value.slice p0.a p0.len p0.cap] h Q = F117 p0 h Q := by kernel_rfl
theorem c117 {p0 : Sl} {h : Hp} {Q : Sl → Hp → Prop} (hk : F117 p0 h Q) : callP Try.prog 117 [Value.slice p0.a p0.len p0.cap] (cSl) h Q :=
  spec_of (prem_of prog_ok dep_ok eqs_ok rfl (by kernel_rfl)) mix_ok ((e117 p0 h Q).mpr hk)
def a118 : Ann := { prom := 0, refs := [], dyn := 0, bcd := fun s => match s with | _ => none, eqs := memL eqL, cdc := cdcs, res := ress, pure := memL [97], pan := memL [122, 137] }
def n118 : An := (.seq (.reg []) (.seq (.reg []) (.seq (.seq (.reg []) (.cond (.seq (.reg []) .leaf) .leaf)) (.seq (.reg []) (.seq (.reg [(0, []), (1, []), (2, []), (3, []), (4, []), (5, []), (6, []), (7, [])]) (.seq (.reg []) (.seq (.reg []) .leaf)))))))
/-- slices.Delete[[]consols/api.Frame,consols/api.Frame] -/
def F118 (p0 : Sl) (p1 : Int) (p2 : Int) (h : Hp) (Q : Sl → Hp → Prop) : Prop :=
  cut3P p0.cap (some p1) p2 (↑p0.len : Int) fun (k1 k2 k3 : Nat) =>
    condP (p1 == p2) (Q p0 h)
      (cutP p0.len p0.cap none (some p1) fun (k4 k5 : Nat) =>
        cutP p0.len p0.cap (some p2) none fun (k6 k7 : Nat) =>
          appendP cFrame (48 : Nat) (64 : Nat) (cutA p0.a k4 p0.cap (8 : Nat)) (k5 - k4) (p0.cap - k4) (cutA p0.a k6 p0.cap (8 : Nat)) (k7 - k6) h fun (p1 : Option Addr) (k8 k9 : Nat) (h1 : Hp) =>
            cutP k8 k9 (some (↑k8 : Int)) (some (↑p0.len : Int)) fun (k10 k11 : Nat) =>
              clearP cFrame { Seq := (0 : Int), Msg_Kind := (0 : Int), Msg_F_0 := (0 : Int), Msg_F_1 := (0 : Int), Msg_F_2 := (0 : Int), Msg_F_3 := (0 : Int), Msg_F_4 := (0 : Int), Msg_F_5 := (0 : Int) : Frame } (cutA p1 k10 k9 (8 : Nat))
                (k11 - k10) h1 fun (h2 : Hp) => Q { a := p1, len := k8, cap := k9 : Sl } h2)
theorem e118 (p0 : Sl) (p1 : Int) (p2 : Int) (h : Hp) (Q : Sl → Hp → Prop) : fnD a118 Try.prog 118 n118 (cSl) [Value.slice p0.a p0.len p0.cap, Value.int IntKind.i64 p1, Value.int IntKind.i64 p2] h Q = F118 p0 p1 p2 h Q := by kernel_rfl
theorem c118 {p0 : Sl} {p1 : Int} {p2 : Int} {h : Hp} {Q : Sl → Hp → Prop} (hk : F118 p0 p1 p2 h Q) : callP Try.prog 118 [Value.slice p0.a p0.len p0.cap, Value.int IntKind.i64 p1, Value.int IntKind.i64 p2] (cSl) h Q :=
  spec_of (prem_of prog_ok dep_ok eqs_ok rfl (by kernel_rfl)) mix_ok ((e118 p0 p1 p2 h Q).mpr hk)
def a119 : Ann := { prom := 0, refs := [], dyn := 0, bcd := fun s => match s with | _ => none, eqs := memL eqL, cdc := cdcs, res := ress, pure := memL [97], pan := memL [122, 137] }
def n119 : An := (.seq (.reg []) (.seq (.seq (.reg []) (.cond (.seq (.reg []) .leaf) .leaf)) (.seq (.reg []) .leaf)))
/-- slices.Clone[[]consols/api.Frame,consols/api.Frame] -/
def F119 (p0 : Sl) (h : Hp) (Q : Sl → Hp → Prop) : Prop :=
  condP p0.a.isNone (Q { a := none, len := (0 : Nat), cap := (0 : Nat) : Sl } h)
    (allocP (Obj.cells { toList := [] : Array Value } (48 : Nat)) h fun (k1 : Nat) (h1 : Hp) =>
      appendP cFrame (48 : Nat) (64 : Nat) (some { block := k1, off := (0 : Nat) : Addr }) (0 : Nat) (0 : Nat) p0.a p0.len h1 fun (p1 : Option Addr) (k2 k3 : Nat) (h2 : Hp) => Q { a := p1, len := k2, cap := k3 : Sl } h2)
theorem e119 (p0 : Sl) (h : Hp) (Q : Sl → Hp → Prop) : fnD a119 Try.prog 119 n119 (cSl) [Value.slice p0.a p0.len p0.cap] h Q = F119 p0 h Q := by kernel_rfl
theorem c119 {p0 : Sl} {h : Hp} {Q : Sl → Hp → Prop} (hk : F119 p0 h Q) : callP Try.prog 119 [Value.slice p0.a p0.len p0.cap] (cSl) h Q :=
  spec_of (prem_of prog_ok dep_ok eqs_ok rfl (by kernel_rfl)) mix_ok ((e119 p0 h Q).mpr hk)
def a120 : Ann := { prom := 0, refs := [], dyn := 0, bcd := fun s => match s with | _ => none, eqs := memL eqL, cdc := cdcs, res := ress, pure := memL [97], pan := memL [122, 137] }
def n120 : An := (.seq (.reg []) (.seq (.reg []) .leaf))
/-- consols/pack.turned -/
def F120 (p0 : Int) (h : Hp) (Q : Int → Hp → Prop) : Prop :=
 (0 : Int) ≤ (1 : Int) ∧ (0 : Int) ≤ (63 : Int) ∧ Q (xorI IntKind.u64 (shlI IntKind.u64 (IntKind.u64.wrap p0) (1 : Int)) (IntKind.u64.wrap (shrI IntKind.i64 p0 (63 : Int)))) h
theorem e120 (p0 : Int) (h : Hp) (Q : Int → Hp → Prop) : fnD a120 Try.prog 120 n120 (cI .u64) [Value.int IntKind.i64 p0] h Q = F120 p0 h Q := by kernel_rfl
theorem c120 {p0 : Int} {h : Hp} {Q : Int → Hp → Prop} (hk : F120 p0 h Q) : callP Try.prog 120 [Value.int IntKind.i64 p0] (cI .u64) h Q :=
  spec_of (prem_of prog_ok dep_ok eqs_ok rfl (by kernel_rfl)) mix_ok ((e120 p0 h Q).mpr hk)
def a121 : Ann := { prom := 8, refs := [], dyn := 0, bcd := fun s => match s with | 3 => some (cPackshort) | _ => none, eqs := memL eqL, cdc := cdcs, res := ress, pure := memL [97], pan := memL [122, 137] }
def n121 : An := (.seq .regX (.cond (.join [] 65304 (.seq .regX (.seq (.reg []) (.cond .regX .leaf))) (.reg [])) .leaf))
/-- consols/pack.Get$1 -/
def F121_0 (p0 : Addr) (p1 : Addr) (h : Hp) (K : Hp → Prop) : Prop :=
 K h
theorem e121_0 (p0 : Addr) (p1 : Addr) (h : Hp) (K : Hp → Prop) : fnRec a121 Try.prog 121 n121 [Value.pointer (some p0), Value.pointer (some p1)] (none) h K = F121_0 p0 p1 h K := by kernel_rfl
theorem c121_0 {p0 : Addr} {p1 : Addr} {h : Hp} {K : Hp → Prop} (hk : F121_0 p0 p1 h K) : deferP Try.prog 121 [Value.pointer (some p0), Value.pointer (some p1)] (none) h K :=
  specRec_of (prem_of prog_ok dep_ok eqs_ok rfl (by kernel_rfl)) mix_ok ((e121_0 p0 p1 h K).mpr hk)
/-- consols/pack.Get$1 -/
def F121_1 (p0 : Addr) (p1 : Addr) (h : Hp) (K : Hp → Prop) : Prop :=
  joinP (fun (u1 : PUnit) (h1 : Hp) => storeP cSl p0 { a := none, len := (0 : Nat), cap := (0 : Nat) : Sl } h1 fun (h2 : Hp) => storeP (cI IntKind.i64) p1 (2 : Int) h2 fun (h3 : Hp) => K h3) fun (J1 : PUnit → Hp → Prop) => J1 PUnit.unit h
theorem e121_1 (p0 : Addr) (p1 : Addr) (h : Hp) (K : Hp → Prop) : fnRec a121 Try.prog 121 n121 [Value.pointer (some p0), Value.pointer (some p1)] (some (.iface 146 (.agg #[]))) h K = F121_1 p0 p1 h K := by kernel_rfl
theorem c121_1 {p0 : Addr} {p1 : Addr} {h : Hp} {K : Hp → Prop} (hk : F121_1 p0 p1 h K) : deferP Try.prog 121 [Value.pointer (some p0), Value.pointer (some p1)] (some (.iface 146 (.agg #[]))) h K :=
  specRec_of (prem_of prog_ok dep_ok eqs_ok rfl (by kernel_rfl)) mix_ok ((e121_1 p0 p1 h K).mpr hk)
def a122 : Ann := { prom := 0, refs := [], dyn := 0, bcd := fun s => match s with | _ => none, eqs := memL eqL, cdc := cdcs, res := ress, pure := memL [97], pan := memL [122, 137] }
def n122 : An := (.seq (.reg []) (.seq (.reg []) (.join [] 122880 (.seq (.reg []) (.cond .regX .leaf)) (.seq (.reg [(0, []), (1, []), (2, []), (3, []), (4, []), (5, [])]) .leaf))))
/-- consols/pack.must -/
def F122 (p0 : Sl) (h : Hp) (Q : Int × Sl → Hp → Prop) (S : Value → Hp → Prop) : Prop :=
  callP Try.prog (68 : Nat) [Value.slice p0.a p0.len p0.cap] (tupC [cI IntKind.i64, cI IntKind.i64, cB]) h fun (z1 : Int × Int × Bool) (h1 : Hp) =>
    joinP (fun (u1 : PUnit) (h2 : Hp) => cutP p0.len p0.cap (some z1.snd.fst) none fun (k1 k2 : Nat) => Q (z1.fst, { a := cutA p0.a k1 p0.cap (1 : Nat), len := k2 - k1, cap := p0.cap - k1 : Sl }) h2) fun (J1 : PUnit → Hp → Prop) =>
      condP (!z1.snd.snd) (S (Value.iface (146 : Nat) (Value.agg { toList := [] : Array Value })) h1) (J1 PUnit.unit h1)
theorem e122 (p0 : Sl) (h : Hp) (Q : Int × Sl → Hp → Prop) (S : Value → Hp → Prop) : fnX a122 Try.prog 122 n122 (tupC [cI .i64, cSl]) [Value.slice p0.a p0.len p0.cap] h Q S = F122 p0 h Q S := by kernel_rfl
theorem c122 {p0 : Sl} {h : Hp} {Q : Int × Sl → Hp → Prop} {S : Value → Hp → Prop} (hk : F122 p0 h Q S) : callXP Try.prog 122 [Value.slice p0.a p0.len p0.cap] (tupC [cI .i64, cSl]) h Q S :=
  specX_of (prem_of prog_ok dep_ok eqs_ok rfl (by kernel_rfl)) mix_ok ((e122 p0 h Q S).mpr hk)
def a123 : Ann := { prom := 0, refs := [], dyn := 0, bcd := fun s => match s with | _ => none, eqs := memL eqL, cdc := cdcs, res := ress, pure := memL [97], pan := memL [122, 137] }
def n123 : An := (.seq (.reg []) (.seq (.reg []) (.seq (.reg []) (.seq (.block (.loop [(3, false, cI .u64), (4, false, cSl)] 262040 (.seq (.seq (.reg []) (.cond .leaf .leaf)) (.block (.seq (.reg []) (.reg [])))))) (.seq (.reg []) .leaf)))))
/-- consols/consolsref3.one -/
def F123 (p0 : Int) (h : Hp) (Q : Sl → Hp → Prop) : Prop :=
  callP Try.prog (142 : Nat) [Value.int IntKind.i64 p0] (cI IntKind.u64) h fun (n1 : Int) (h1 : Hp) =>
    loopP (n1, { a := none, len := (0 : Nat), cap := (0 : Nat) : Sl }) h1 fun (J1 : Int × Sl → Hp → Prop) (z1 : Int × Sl) (h2 : Hp) =>
      condP (decide (z1.fst ≥ (128 : Int)))
        ((128 : Int) ≠ (0 : Int) ∧
          allocP (Obj.cells { toList := [Value.int IntKind.u8 (IntKind.u8.wrap (IntKind.u64.wrap (z1.fst.tmod (128 : Int) + (128 : Int))))] : Array Value } (5 : Nat)) h2 fun (k1 : Nat) (h3 : Hp) =>
            appendP (cI IntKind.u8) (5 : Nat) (1 : Nat) z1.snd.a z1.snd.len z1.snd.cap (some { block := k1, off := (0 : Nat) : Addr }) (1 : Nat) h3 fun (p1 : Option Addr) (k2 k3 : Nat) (h4 : Hp) =>
              (128 : Int) ≠ (0 : Int) ∧ J1 (quoI IntKind.u64 z1.fst (128 : Int), { a := p1, len := k2, cap := k3 : Sl }) h4)
        (allocP (Obj.cells { toList := [Value.int IntKind.u8 (IntKind.u8.wrap z1.fst)] : Array Value } (5 : Nat)) h2 fun (k4 : Nat) (h5 : Hp) =>
          appendP (cI IntKind.u8) (5 : Nat) (1 : Nat) z1.snd.a z1.snd.len z1.snd.cap (some { block := k4, off := (0 : Nat) : Addr }) (1 : Nat) h5 fun (p2 : Option Addr) (k5 k6 : Nat) (h6 : Hp) => Q { a := p2, len := k5, cap := k6 : Sl } h6)
theorem e123 (p0 : Int) (h : Hp) (Q : Sl → Hp → Prop) : fnD a123 Try.prog 123 n123 (cSl) [Value.int IntKind.i64 p0] h Q = F123 p0 h Q := by kernel_rfl
theorem c123 {p0 : Int} {h : Hp} {Q : Sl → Hp → Prop} (hk : F123 p0 h Q) : callP Try.prog 123 [Value.int IntKind.i64 p0] (cSl) h Q :=
  spec_of (prem_of prog_ok dep_ok eqs_ok rfl (by kernel_rfl)) mix_ok ((e123 p0 h Q).mpr hk)
def a124 : Ann := { prom := 0, refs := [], dyn := 0, bcd := fun s => match s with | _ => none, eqs := memL eqL, cdc := cdcs, res := ress, pure := memL [97], pan := memL [122, 137] }
def n124 : An := (.seq (.reg []) (.seq (.reg []) .leaf))
/-- consols/pack.back -/
def F124 (p0 : Int) (h : Hp) (Q : Int → Hp → Prop) : Prop :=
 (0 : Int) ≤ (1 : Int) ∧ Q (xorI IntKind.i64 (IntKind.i64.wrap (shrI IntKind.u64 p0 (1 : Int))) (IntKind.i64.wrap ((0 : Int) - IntKind.i64.wrap (andI IntKind.u64 p0 (1 : Int))))) h
theorem e124 (p0 : Int) (h : Hp) (Q : Int → Hp → Prop) : fnD a124 Try.prog 124 n124 (cI .i64) [Value.int IntKind.u64 p0] h Q = F124 p0 h Q := by kernel_rfl
theorem c124 {p0 : Int} {h : Hp} {Q : Int → Hp → Prop} (hk : F124 p0 h Q) : callP Try.prog 124 [Value.int IntKind.u64 p0] (cI .i64) h Q :=
  spec_of (prem_of prog_ok dep_ok eqs_ok rfl (by kernel_rfl)) mix_ok ((e124 p0 h Q).mpr hk)
def a125 : Ann := { prom := 0, refs := [], dyn := 0, bcd := fun s => match s with | _ => none, eqs := memL eqL, cdc := cdcs, res := ress, pure := memL [97], pan := memL [122, 137] }
def n125 : An := (.seq (.reg []) (.seq (.seq (.reg []) (.cond (.seq (.reg []) .leaf) .leaf)) (.seq (.reg []) .leaf)))
/-- consols/consolsref3.zag -/
def F125 (p0 : Int) (h : Hp) (Q : Int → Hp → Prop) : Prop :=
  (2 : Int) ≠ (0 : Int) ∧
    condP (p0.tmod (2 : Int) == (1 : Int)) ((2 : Int) ≠ (0 : Int) ∧ Q (IntKind.i64.wrap (IntKind.i64.wrap ((0 : Int) - IntKind.i64.wrap (quoI IntKind.u64 p0 (2 : Int))) - (1 : Int))) h)
      ((2 : Int) ≠ (0 : Int) ∧ Q (IntKind.i64.wrap (quoI IntKind.u64 p0 (2 : Int))) h)
theorem e125 (p0 : Int) (h : Hp) (Q : Int → Hp → Prop) : fnD a125 Try.prog 125 n125 (cI .i64) [Value.int IntKind.u64 p0] h Q = F125 p0 h Q := by kernel_rfl
theorem c125 {p0 : Int} {h : Hp} {Q : Int → Hp → Prop} (hk : F125 p0 h Q) : callP Try.prog 125 [Value.int IntKind.u64 p0] (cI .i64) h Q :=
  spec_of (prem_of prog_ok dep_ok eqs_ok rfl (by kernel_rfl)) mix_ok ((e125 p0 h Q).mpr hk)
def a126 : Ann := { prom := 0, refs := [], dyn := 0, bcd := fun s => match s with | _ => none, eqs := memL eqL, cdc := cdcs, res := ress, pure := memL [97], pan := memL [122, 137] }
def n126 : An := (.seq (.reg []) (.seq (.reg []) (.seq (.seq (.reg []) (.block (.loop [(3, false, cI .i64), (11, false, cI .i64)] 8386600 (.seq (.reg []) (.seq (.cond .leaf .leaf) (.seq (.blockJ [(3, false, cI .i64)] 4186152 (.seq (.reg []) (.seq (.reg []) (.seq (.reg []) (.cond .regX .leaf))))) (.reg []))))))) (.seq (.reg []) (.seq (.seq (.reg []) (.block (.loop [(6, false, cSl), (27, false, cI .i64)] 34225520960 (.seq (.reg []) (.seq (.cond .leaf .leaf) (.seq (.block (.seq (.reg []) (.reg []))) (.reg []))))))) (.seq (.reg []) .leaf))))))
/-- slices.Concat[[]byte,byte] -/
def F126 (p0 : Sl) (h : Hp) (Q : Sl → Hp → Prop) : Prop :=
  loopP ((0 : Int), (0 : Int)) h fun (J1 : Int × Int → Hp → Prop) (z1 : Int × Int) (h1 : Hp) =>
    condP (decide (z1.snd < (↑p0.len : Int)))
      (joinP (fun (n1 : Int) (h2 : Hp) => J1 (n1, IntKind.i64.wrap (z1.snd + (1 : Int))) h2) fun (J2 : Int → Hp → Prop) =>
        idxP p0.a p0.len z1.snd fun (a1 : Addr) =>
          loadP cSl (a1.add (z1.snd.toNat * (1 : Nat))) h1 fun (s1 : Sl) => condP (decide (IntKind.i64.wrap (z1.fst + (↑s1.len : Int)) < (0 : Int))) False (J2 (IntKind.i64.wrap (z1.fst + (↑s1.len : Int))) h1))
      (callP Try.prog (143 : Nat) [Value.slice none (0 : Nat) (0 : Nat), Value.int IntKind.i64 z1.fst] cSl h1 fun (s2 : Sl) (h3 : Hp) =>
        loopP (s2, (0 : Int)) h3 fun (J3 : Sl × Int → Hp → Prop) (z2 : Sl × Int) (h4 : Hp) =>
          condP (decide (z2.snd < (↑p0.len : Int)))
            (idxP p0.a p0.len z2.snd fun (a2 : Addr) =>
              loadP cSl (a2.add (z2.snd.toNat * (1 : Nat))) h4 fun (s3 : Sl) =>
                appendP (cI IntKind.u8) (5 : Nat) (1 : Nat) z2.fst.a z2.fst.len z2.fst.cap s3.a s3.len h4 fun (p1 : Option Addr) (k1 k2 : Nat) (h5 : Hp) =>
                  J3 ({ a := p1, len := k1, cap := k2 : Sl }, IntKind.i64.wrap (z2.snd + (1 : Int))) h5)
            (Q z2.fst h4))
theorem e126 (p0 : Sl) (h : Hp) (Q : Sl → Hp → Prop) : fnD a126 Try.prog 126 n126 (cSl) [Value.slice p0.a p0.len p0.cap] h Q = F126 p0 h Q := by kernel_rfl
theorem c126 {p0 : Sl} {h : Hp} {Q : Sl → Hp → Prop} (hk : F126 p0 h Q) : callP Try.prog 126 [Value.slice p0.a p0.len p0.cap] (cSl) h Q :=
  spec_of (prem_of prog_ok dep_ok eqs_ok rfl (by kernel_rfl)) mix_ok ((e126 p0 h Q).mpr hk)
def a127 : Ann := { prom := 0, refs := [], dyn := 0, bcd := fun s => match s with | _ => none, eqs := memL eqL, cdc := cdcs, res := ress, pure := memL [97], pan := memL [122, 137] }
def n127 : An := (.seq (.reg []) (.seq (.reg []) (.seq (.seq (.reg []) (.block (.loop [(8, false, cI .i64)] 2096912 (.seq (.reg []) (.seq (.cond .leaf .leaf) (.seq (.block (.seq (.reg []) (.reg []))) (.reg []))))))) (.seq (.reg []) .leaf))))
/-- consols/frame.four -/
def F127 (p0 : Int) (h : Hp) (Q : Sl → Hp → Prop) : Prop :=
  makeSlP (4 : Int) (4 : Int) (1 : Nat)
    (allocP (Obj.cells { toList := [Value.int IntKind.u8 (0 : Int), Value.int IntKind.u8 (0 : Int), Value.int IntKind.u8 (0 : Int), Value.int IntKind.u8 (0 : Int)] : Array Value } (5 : Nat)) h fun (k1 : Nat) (h1 : Hp) =>
      loopP (0 : Int) h1 fun (J1 : Int → Hp → Prop) (n1 : Int) (h2 : Hp) =>
        condP (decide (n1 < (4 : Int)))
          ((0 : Int) ≤ IntKind.i64.wrap ((8 : Int) * IntKind.i64.wrap ((3 : Int) - n1)) ∧
            idxP (some { block := k1, off := (0 : Nat) : Addr }) (4 : Nat) n1 fun (a1 : Addr) =>
              storeP (cI IntKind.u8) (a1.add (n1.toNat * (1 : Nat))) (IntKind.u8.wrap (shrI IntKind.u32 p0 (IntKind.i64.wrap ((8 : Int) * IntKind.i64.wrap ((3 : Int) - n1))))) h2 fun (h3 : Hp) => J1 (IntKind.i64.wrap (n1 + (1 : Int))) h3)
          (Q { a := some { block := k1, off := (0 : Nat) : Addr }, len := (4 : Nat), cap := (4 : Nat) : Sl } h2))
theorem e127 (p0 : Int) (h : Hp) (Q : Sl → Hp → Prop) : fnD a127 Try.prog 127 n127 (cSl) [Value.int IntKind.u32 p0] h Q = F127 p0 h Q := by kernel_rfl
theorem c127 {p0 : Int} {h : Hp} {Q : Sl → Hp → Prop} (hk : F127 p0 h Q) : callP Try.prog 127 [Value.int IntKind.u32 p0] (cSl) h Q :=
  spec_of (prem_of prog_ok dep_ok eqs_ok rfl (by kernel_rfl)) mix_ok ((e127 p0 h Q).mpr hk)
def a128 : Ann := { prom := 0, refs := [], dyn := 0, bcd := fun s => match s with | _ => none, eqs := memL eqL, cdc := cdcs, res := ress, pure := memL [97], pan := memL [122, 137] }
def n128 : An := (.seq (.reg []) (.seq (.reg []) (.seq (.seq (.reg []) (.block (.loop [(3, false, cI .u32), (10, false, cI .i64)] 33553576 (.seq (.reg []) (.seq (.cond .leaf .leaf) (.seq (.block (.seq (.reg []) (.seq (.reg []) (.block (.loop [(3, false, cI .u32), (16, false, cI .i64)] 16711816 (.seq (.reg []) (.seq (.cond .leaf .leaf) (.seq (.block (.seq (.reg []) (.reg []))) (.reg []))))))))) (.reg []))))))) (.seq (.reg []) .leaf))))
/-- consols/sum.Of -/
def F128 (p0 : Sl) (h : Hp) (Q : Int → Hp → Prop) : Prop :=
  loopP ((0 : Int), (0 : Int)) h fun (J1 : Int × Int → Hp → Prop) (z1 : Int × Int) (h1 : Hp) =>
    condP (decide (z1.snd < (↑p0.len : Int)))
      (idxP p0.a p0.len z1.snd fun (a1 : Addr) =>
        loadP cSl (a1.add (z1.snd.toNat * (1 : Nat))) h1 fun (s1 : Sl) =>
          loopP (z1.fst, (0 : Int)) h1 fun (J2 : Int × Int → Hp → Prop) (z2 : Int × Int) (h2 : Hp) =>
            condP (decide (z2.snd < (↑s1.len : Int)))
              (idxP s1.a s1.len z2.snd fun (a2 : Addr) =>
                loadP (cI IntKind.u8) (a2.add (z2.snd.toNat * (1 : Nat))) h2 fun (n1 : Int) =>
                  callP Try.prog (144 : Nat) [Value.int IntKind.u32 z2.fst, Value.int IntKind.u8 n1] (cI IntKind.u32) h2 fun (n2 : Int) (h3 : Hp) => J2 (n2, IntKind.i64.wrap (z2.snd + (1 : Int))) h3)
              (J1 (z2.fst, IntKind.i64.wrap (z1.snd + (1 : Int))) h2))
      (Q z1.fst h1)
theorem e128 (p0 : Sl) (h : Hp) (Q : Int → Hp → Prop) : fnD a128 Try.prog 128 n128 (cI .u32) [Value.slice p0.a p0.len p0.cap] h Q = F128 p0 h Q := by kernel_rfl
theorem c128 {p0 : Sl} {h : Hp} {Q : Int → Hp → Prop} (hk : F128 p0 h Q) : callP Try.prog 128 [Value.slice p0.a p0.len p0.cap] (cI .u32) h Q :=
  spec_of (prem_of prog_ok dep_ok eqs_ok rfl (by kernel_rfl)) mix_ok ((e128 p0 h Q).mpr hk)
def a129 : Ann := { prom := 0, refs := [], dyn := 0, bcd := fun s => match s with | _ => none, eqs := memL eqL, cdc := cdcs, res := ress, pure := memL [97], pan := memL [122, 137] }
def n129 : An := (.seq (.reg []) (.seq (.reg []) (.seq (.seq (.reg []) (.block (.loop [(3, false, cI .u32), (4, false, cI .i64)] 131064 (.seq (.seq (.reg []) (.cond .leaf .leaf)) (.seq (.block (.reg [])) (.reg [])))))) (.seq (.reg []) .leaf))))
/-- consols/consolsref4.Of -/
def F129 (p0 : Sl) (h : Hp) (Q : Int → Hp → Prop) : Prop :=
  loopP ((0 : Int), (0 : Int)) h fun (J1 : Int × Int → Hp → Prop) (z1 : Int × Int) (h1 : Hp) =>
    condP (decide (z1.snd < (↑p0.len : Int)))
      (idxP p0.a p0.len z1.snd fun (a1 : Addr) =>
        loadP (cI IntKind.u8) (a1.add (z1.snd.toNat * (1 : Nat))) h1 fun (n1 : Int) =>
          callP Try.prog (145 : Nat) [Value.int IntKind.u32 z1.fst, Value.int IntKind.u8 n1] (cI IntKind.u32) h1 fun (n2 : Int) (h2 : Hp) => J1 (n2, IntKind.i64.wrap (z1.snd + (1 : Int))) h2)
      (Q z1.fst h1)
theorem e129 (p0 : Sl) (h : Hp) (Q : Int → Hp → Prop) : fnD a129 Try.prog 129 n129 (cI .u32) [Value.slice p0.a p0.len p0.cap] h Q = F129 p0 h Q := by kernel_rfl
theorem c129 {p0 : Sl} {h : Hp} {Q : Int → Hp → Prop} (hk : F129 p0 h Q) : callP Try.prog 129 [Value.slice p0.a p0.len p0.cap] (cI .u32) h Q :=
  spec_of (prem_of prog_ok dep_ok eqs_ok rfl (by kernel_rfl)) mix_ok ((e129 p0 h Q).mpr hk)
def a130 : Ann := { prom := 0, refs := [], dyn := 0, bcd := fun s => match s with | _ => none, eqs := memL eqL, cdc := cdcs, res := ress, pure := memL [97], pan := memL [122, 137] }
def n130 : An := (.seq (.reg []) (.seq (.reg []) .leaf))
/-- bytes.Equal -/
def F130 (p0 : Sl) (p1 : Sl) (h : Hp) (Q : Bool → Hp → Prop) : Prop :=
 strP p0.a p0.len h fun (u1 : ByteArray) => strP p1.a p1.len h fun (u2 : ByteArray) => Q (strEq u1 u2) h
theorem e130 (p0 : Sl) (p1 : Sl) (h : Hp) (Q : Bool → Hp → Prop) : fnD a130 Try.prog 130 n130 (cB) [Value.slice p0.a p0.len p0.cap, Value.slice p1.a p1.len p1.cap] h Q = F130 p0 p1 h Q := by kernel_rfl
theorem c130 {p0 : Sl} {p1 : Sl} {h : Hp} {Q : Bool → Hp → Prop} (hk : F130 p0 p1 h Q) : callP Try.prog 130 [Value.slice p0.a p0.len p0.cap, Value.slice p1.a p1.len p1.cap] (cB) h Q :=
  spec_of (prem_of prog_ok dep_ok eqs_ok rfl (by kernel_rfl)) mix_ok ((e130 p0 p1 h Q).mpr hk)
def a131 : Ann := { prom := 0, refs := [], dyn := 0, bcd := fun s => match s with | _ => none, eqs := memL eqL, cdc := cdcs, res := ress, pure := memL [97], pan := memL [122, 137] }
def n131 : An := (.seq (.reg []) (.seq (.join [(11, false, cB)] 4088 (.reg []) (.cond (.seq (.reg []) .leaf) .leaf)) (.seq (.reg []) .leaf)))
/-- consols/flow.begins -/
def F131 (p0 : Sl) (h : Hp) (Q : Bool → Hp → Prop) : Prop :=
  joinP
    (fun (t1 : Bool) (h1 : Hp) =>
      condP t1 (Q false h1)
        (condP ((↑p0.len : Int) == (1 : Int)) (Q true h1)
          (idxP p0.a p0.len (1 : Int) fun (a1 : Addr) =>
            loadP (cI IntKind.u8) { block := a1.block, off := a1.off + (1 : Nat) : Addr } h1 fun (n1 : Int) =>
              condP (decide (n1 ≤ (80 : Int)))
                (idxP p0.a p0.len (1 : Int) fun (a2 : Addr) =>
                  loadP (cI IntKind.u8) { block := a2.block, off := a2.off + (1 : Nat) : Addr } h1 fun (n2 : Int) => Q (decide ((↑p0.len : Int) < IntKind.i64.wrap ((6 : Int) + IntKind.i64.wrap n2))) h1)
                (Q false h1))))
    fun (J1 : Bool → Hp → Prop) => condP ((↑p0.len : Int) == (0 : Int)) (J1 true h) (idxP p0.a p0.len (0 : Int) fun (a3 : Addr) => loadP (cI IntKind.u8) (a3.add (0 : Nat)) h fun (n3 : Int) => J1 (n3 != (197 : Int)) h)
theorem e131 (p0 : Sl) (h : Hp) (Q : Bool → Hp → Prop) : fnD a131 Try.prog 131 n131 (cB) [Value.slice p0.a p0.len p0.cap] h Q = F131 p0 h Q := by kernel_rfl
theorem c131 {p0 : Sl} {h : Hp} {Q : Bool → Hp → Prop} (hk : F131 p0 h Q) : callP Try.prog 131 [Value.slice p0.a p0.len p0.cap] (cB) h Q :=
  spec_of (prem_of prog_ok dep_ok eqs_ok rfl (by kernel_rfl)) mix_ok ((e131 p0 h Q).mpr hk)
def a132 : Ann := { prom := 0, refs := [], dyn := 0, bcd := fun s => match s with | _ => none, eqs := memL eqL, cdc := cdcs, res := ress, pure := memL [97], pan := memL [122, 137] }
def n132 : An := (.seq (.reg []) (.seq (.join [(11, false, cB)] 4088 (.reg []) (.cond (.seq (.reg []) .leaf) .leaf)) (.seq (.reg []) .leaf)))
/-- consols/consolsref7.may -/
def F132 (p0 : Sl) (h : Hp) (Q : Bool → Hp → Prop) : Prop :=
  joinP
    (fun (t1 : Bool) (h1 : Hp) =>
      condP t1 (Q false h1)
        (condP ((↑p0.len : Int) == (1 : Int)) (Q true h1)
          (idxP p0.a p0.len (1 : Int) fun (a1 : Addr) =>
            loadP (cI IntKind.u8) { block := a1.block, off := a1.off + (1 : Nat) : Addr } h1 fun (n1 : Int) =>
              condP (decide (IntKind.i64.wrap n1 ≤ (80 : Int)))
                (idxP p0.a p0.len (1 : Int) fun (a2 : Addr) =>
                  loadP (cI IntKind.u8) { block := a2.block, off := a2.off + (1 : Nat) : Addr } h1 fun (n2 : Int) => Q (decide ((↑p0.len : Int) < IntKind.i64.wrap ((6 : Int) + IntKind.i64.wrap n2))) h1)
                (Q false h1))))
    fun (J1 : Bool → Hp → Prop) => condP ((↑p0.len : Int) == (0 : Int)) (J1 true h) (idxP p0.a p0.len (0 : Int) fun (a3 : Addr) => loadP (cI IntKind.u8) (a3.add (0 : Nat)) h fun (n3 : Int) => J1 (n3 != (197 : Int)) h)
theorem e132 (p0 : Sl) (h : Hp) (Q : Bool → Hp → Prop) : fnD a132 Try.prog 132 n132 (cB) [Value.slice p0.a p0.len p0.cap] h Q = F132 p0 h Q := by kernel_rfl
theorem c132 {p0 : Sl} {h : Hp} {Q : Bool → Hp → Prop} (hk : F132 p0 h Q) : callP Try.prog 132 [Value.slice p0.a p0.len p0.cap] (cB) h Q :=
  spec_of (prem_of prog_ok dep_ok eqs_ok rfl (by kernel_rfl)) mix_ok ((e132 p0 h Q).mpr hk)
def a142 : Ann := { prom := 0, refs := [], dyn := 0, bcd := fun s => match s with | _ => none, eqs := memL eqL, cdc := cdcs, res := ress, pure := memL [97], pan := memL [122, 137] }
def n142 : An := (.seq (.reg []) (.seq (.seq (.reg []) (.cond (.seq (.reg []) .leaf) .leaf)) (.seq (.reg []) .leaf)))
/-- consols/consolsref3.zig -/
def F142 (p0 : Int) (h : Hp) (Q : Int → Hp → Prop) : Prop :=
  condP (decide (p0 < (0 : Int))) (Q (IntKind.u64.wrap (IntKind.u64.wrap ((2 : Int) * IntKind.u64.wrap (IntKind.i64.wrap ((0 : Int) - IntKind.i64.wrap (p0 + (1 : Int))))) + (1 : Int))) h)
    (Q (IntKind.u64.wrap ((2 : Int) * IntKind.u64.wrap p0)) h)
theorem e142 (p0 : Int) (h : Hp) (Q : Int → Hp → Prop) : fnD a142 Try.prog 142 n142 (cI .u64) [Value.int IntKind.i64 p0] h Q = F142 p0 h Q := by kernel_rfl
theorem c142 {p0 : Int} {h : Hp} {Q : Int → Hp → Prop} (hk : F142 p0 h Q) : callP Try.prog 142 [Value.int IntKind.i64 p0] (cI .u64) h Q :=
  spec_of (prem_of prog_ok dep_ok eqs_ok rfl (by kernel_rfl)) mix_ok ((e142 p0 h Q).mpr hk)
def a143 : Ann := { prom := 0, refs := [], dyn := 0, bcd := fun s => match s with | _ => none, eqs := memL eqL, cdc := cdcs, res := ress, pure := memL [97], pan := memL [122, 137] }
def n143 : An := (.seq (.reg []) (.join [] 224 (.seq (.reg []) (.cond .regX .leaf)) (.seq (.seq .regX (.seq (.reg []) (.cond .regX .leaf))) (.seq (.reg []) .leaf))))
/-- slices.Grow[[]byte,byte] -/
def F143 (p0 : Sl) (p1 : Int) (h : Hp) (Q : Sl → Hp → Prop) : Prop :=
  joinP
    (fun (u1 : PUnit) (h1 : Hp) =>
      condP (decide (IntKind.i64.wrap (p1 - IntKind.i64.wrap ((↑p0.cap : Int) - (↑p0.len : Int))) > (0 : Int)))
        (cutP p0.len p0.cap none (some (↑p0.cap : Int)) fun (k1 k2 : Nat) =>
          growP (cI IntKind.u8) (0 : Int) (5 : Nat) (1 : Nat) (cutA p0.a k1 p0.cap (1 : Nat)) (k2 - k1) (p0.cap - k1) (IntKind.i64.wrap (p1 - IntKind.i64.wrap ((↑p0.cap : Int) - (↑p0.len : Int)))) h1
            fun (p1 : Option Addr) (k3 k4 : Nat) (h2 : Hp) => cutP k3 k4 none (some (↑p0.len : Int)) fun (k5 k6 : Nat) => Q { a := cutA p1 k5 k4 (1 : Nat), len := k6 - k5, cap := k4 - k5 : Sl } h2)
        (Q p0 h1))
    fun (J1 : PUnit → Hp → Prop) => condP (decide (p1 < (0 : Int))) False (J1 PUnit.unit h)
theorem e143 (p0 : Sl) (p1 : Int) (h : Hp) (Q : Sl → Hp → Prop) : fnD a143 Try.prog 143 n143 (cSl) [Value.slice p0.a p0.len p0.cap, Value.int IntKind.i64 p1] h Q = F143 p0 p1 h Q := by kernel_rfl
theorem c143 {p0 : Sl} {p1 : Int} {h : Hp} {Q : Sl → Hp → Prop} (hk : F143 p0 p1 h Q) : callP Try.prog 143 [Value.slice p0.a p0.len p0.cap, Value.int IntKind.i64 p1] (cSl) h Q :=
  spec_of (prem_of prog_ok dep_ok eqs_ok rfl (by kernel_rfl)) mix_ok ((e143 p0 p1 h Q).mpr hk)
def a144 : Ann := { prom := 0, refs := [], dyn := 0, bcd := fun s => match s with | _ => none, eqs := memL eqL, cdc := cdcs, res := ress, pure := memL [97], pan := memL [122, 137] }
def n144 : An := (.seq (.reg []) (.seq (.reg []) (.seq (.reg []) (.seq (.reg []) .leaf))))
/-- consols/sum.Next -/
def F144 (p0 : Int) (p1 : Int) (h : Hp) (Q : Int → Hp → Prop) : Prop :=
  (65521 : Int) ≠ (0 : Int) ∧
    (0 : Int) ≤ (16 : Int) ∧
      (65521 : Int) ≠ (0 : Int) ∧
        (0 : Int) ≤ (16 : Int) ∧
          Q
            (orI IntKind.u32
              (shlI IntKind.u32 ((IntKind.u32.wrap (shrI IntKind.u32 p0 (16 : Int) + (IntKind.u32.wrap (IntKind.u32.wrap (andI IntKind.u32 p0 (65535 : Int) + IntKind.u32.wrap p1) + (1 : Int))).tmod (65521 : Int))).tmod (65521 : Int))
                (16 : Int))
              ((IntKind.u32.wrap (IntKind.u32.wrap (andI IntKind.u32 p0 (65535 : Int) + IntKind.u32.wrap p1) + (1 : Int))).tmod (65521 : Int)))
            h
theorem e144 (p0 : Int) (p1 : Int) (h : Hp) (Q : Int → Hp → Prop) : fnD a144 Try.prog 144 n144 (cI .u32) [Value.int IntKind.u32 p0, Value.int IntKind.u8 p1] h Q = F144 p0 p1 h Q := by kernel_rfl
theorem c144 {p0 : Int} {p1 : Int} {h : Hp} {Q : Int → Hp → Prop} (hk : F144 p0 p1 h Q) : callP Try.prog 144 [Value.int IntKind.u32 p0, Value.int IntKind.u8 p1] (cI .u32) h Q :=
  spec_of (prem_of prog_ok dep_ok eqs_ok rfl (by kernel_rfl)) mix_ok ((e144 p0 p1 h Q).mpr hk)
def a145 : Ann := { prom := 0, refs := [], dyn := 0, bcd := fun s => match s with | _ => none, eqs := memL eqL, cdc := cdcs, res := ress, pure := memL [97], pan := memL [122, 137] }
def n145 : An := (.seq (.reg []) (.seq (.reg []) (.seq (.reg []) (.seq (.reg []) .leaf))))
/-- consols/consolsref4.Next -/
def F145 (p0 : Int) (p1 : Int) (h : Hp) (Q : Int → Hp → Prop) : Prop :=
  (65521 : Int) ≠ (0 : Int) ∧
    (0 : Int) ≤ (16 : Int) ∧
      (65521 : Int) ≠ (0 : Int) ∧
        (0 : Int) ≤ (16 : Int) ∧
          Q
            (orI IntKind.u32
              (shlI IntKind.u32 ((IntKind.u32.wrap (shrI IntKind.u32 p0 (16 : Int) + (IntKind.u32.wrap (IntKind.u32.wrap (andI IntKind.u32 p0 (65535 : Int) + IntKind.u32.wrap p1) + (1 : Int))).tmod (65521 : Int))).tmod (65521 : Int))
                (16 : Int))
              ((IntKind.u32.wrap (IntKind.u32.wrap (andI IntKind.u32 p0 (65535 : Int) + IntKind.u32.wrap p1) + (1 : Int))).tmod (65521 : Int)))
            h
theorem e145 (p0 : Int) (p1 : Int) (h : Hp) (Q : Int → Hp → Prop) : fnD a145 Try.prog 145 n145 (cI .u32) [Value.int IntKind.u32 p0, Value.int IntKind.u8 p1] h Q = F145 p0 p1 h Q := by kernel_rfl
theorem c145 {p0 : Int} {p1 : Int} {h : Hp} {Q : Int → Hp → Prop} (hk : F145 p0 p1 h Q) : callP Try.prog 145 [Value.int IntKind.u32 p0, Value.int IntKind.u8 p1] (cI .u32) h Q :=
  spec_of (prem_of prog_ok dep_ok eqs_ok rfl (by kernel_rfl)) mix_ok ((e145 p0 p1 h Q).mpr hk)
def a3 : Ann := { prom := 0, refs := [], dyn := 0, bcd := fun s => match s with | _ => none, eqs := memL eqL, cdc := cdcs, res := ress, pure := memL [97], pan := memL [122, 137] }
def n3 : An := (.seq (.reg []) (.seq (.join [(22, false, cB)] 8384512 (.reg []) (.cond (.seq (.reg []) .leaf) .leaf)) (.seq (.reg []) (.seq (.seq (.reg []) (.block (.loop [(6, false, cI .i64)] 2251799780130896 (.seq (.join [(32, false, cB)] 8556380160 (.reg []) (.cond .leaf .leaf)) (.seq (.block (.seq (.seq (.reg []) (.cond (.seq (.reg []) .leaf) .leaf)) (.seq (.reg []) (.cond (.seq (.reg []) .leaf) .leaf)))) (.reg [])))))) (.seq (.reg []) (.seq (.seq (.reg []) (.cond (.seq (.reg []) .leaf) .leaf)) (.seq (.seq (.reg []) (.block (.loop [(7, false, cI .i64)] 9671406520888236378686352 (.seq (.join [(63, false, cB)] 18410715276690587648 (.reg []) (.cond .leaf .leaf)) (.seq (.block (.seq (.reg []) (.join [(82, false, cB)] 9669045373675598575042560 (.reg [(0, []), (1, []), (2, []), (3, []), (5, []), (6, []), (7, []), (4, []), (8, []), (9, []), (10, []), (11, [])]) (.cond (.seq (.reg []) .leaf) .leaf)))) (.reg [])))))) (.seq (.reg []) (.seq (.reg []) .leaf)))))))))
/-- consols/consolslaw8.MailOrder -/
def F3 (p0 : Int) (p1 : Sl) (h : Hp) (Q : Bool → Hp → Prop) : Prop :=
  joinP
    (fun (t1 : Bool) (h1 : Hp) =>
      condP t1 (Q true h1)
        (callP Try.prog (42 : Nat) [Value.int IntKind.i64 p0] cP h1 fun (p1_1 : Option Addr) (h2 : Hp) =>
          loopP (0 : Int) h2 fun (J1 : Int → Hp → Prop) (n1 : Int) (h3 : Hp) =>
            joinP
              (fun (t2 : Bool) (h4 : Hp) =>
                condP t2
                  (idxP p1.a p1.len n1 fun (a1 : Addr) =>
                    loadP cSl (a1.add (n1.toNat * (1 : Nat))) h4 fun (s1 : Sl) =>
                      condP (decide ((↑s1.len : Int) > (50 : Int))) (Q true h4)
                        (idxP p1.a p1.len n1 fun (a2 : Addr) =>
                          loadP cSl (a2.add (n1.toNat * (1 : Nat))) h4 fun (s2 : Sl) =>
                            callP Try.prog (43 : Nat) [Value.pointer p1_1, Value.slice s2.a s2.len s2.cap] cB h4 fun (t3 : Bool) (h5 : Hp) => condP (!t3 == decide (n1 < p0)) (Q false h5) (J1 (IntKind.i64.wrap (n1 + (1 : Int))) h5)))
                  (callP Try.prog (44 : Nat) [Value.pointer p1_1] (tupC []) h4 fun (u1 : PUnit) (h6 : Hp) =>
                    callP Try.prog (43 : Nat) [Value.pointer p1_1, Value.slice none (0 : Nat) (0 : Nat)] cB h6 fun (t4 : Bool) (h7 : Hp) =>
                      condP t4 (Q false h7)
                        (loopP (0 : Int) h7 fun (J2 : Int → Hp → Prop) (n2 : Int) (h8 : Hp) =>
                          joinP
                            (fun (t5 : Bool) (h9 : Hp) =>
                              condP t5
                                (callP Try.prog (45 : Nat) [Value.pointer p1_1] (tupC [cSl, cB]) h9 fun (z1 : Sl × Bool) (h10 : Hp) =>
                                  joinP (fun (t6 : Bool) (h11 : Hp) => condP t6 (Q false h11) (J2 (IntKind.i64.wrap (n2 + (1 : Int))) h11)) fun (J3 : Bool → Hp → Prop) =>
                                    condP (!z1.snd) (J3 true h10)
                                      (idxP p1.a p1.len n2 fun (a3 : Addr) =>
                                        strP z1.fst.a z1.fst.len h10 fun (u2 : ByteArray) => loadP cSl (a3.add (n2.toNat * (1 : Nat))) h10 fun (s3 : Sl) => strP s3.a s3.len h10 fun (u3 : ByteArray) => J3 (!strEq u2 u3) h10))
                                (callP Try.prog (45 : Nat) [Value.pointer p1_1] (tupC [cSl, cB]) h9 fun (z2 : Sl × Bool) (h12 : Hp) =>
                                  condP (!z2.snd) (condP (!p1_1.isNone) (callP Try.prog (46 : Nat) [] cB h12 fun (t7 : Bool) (h13 : Hp) => Q t7 h13) (Q false h12)) (Q false h12)))
                            fun (J4 : Bool → Hp → Prop) => condP (decide (n2 < (↑p1.len : Int))) (J4 (decide (n2 < p0)) h8) (J4 false h8))))
              fun (J5 : Bool → Hp → Prop) => condP (!p1_1.isNone) (J5 (decide (n1 < (↑p1.len : Int))) h3) (J5 false h3)))
    fun (J6 : Bool → Hp → Prop) => condP (decide (p0 < (1 : Int))) (J6 true h) (condP (decide (p0 > (30 : Int))) (J6 true h) (J6 (decide ((↑p1.len : Int) > (40 : Int))) h))
theorem e3 (p0 : Int) (p1 : Sl) (h : Hp) (Q : Bool → Hp → Prop) : fnD a3 Try.prog 3 n3 (cB) [Value.int IntKind.i64 p0, Value.slice p1.a p1.len p1.cap] h Q = F3 p0 p1 h Q := by kernel_rfl
theorem c3 {p0 : Int} {p1 : Sl} {h : Hp} {Q : Bool → Hp → Prop} (hk : F3 p0 p1 h Q) : callP Try.prog 3 [Value.int IntKind.i64 p0, Value.slice p1.a p1.len p1.cap] (cB) h Q :=
  spec_of (prem_of prog_ok dep_ok eqs_ok rfl (by kernel_rfl)) mix_ok ((e3 p0 p1 h Q).mpr hk)
def a4 : Ann := { prom := 0, refs := [], dyn := 0, bcd := fun s => match s with | _ => none, eqs := memL eqL, cdc := cdcs, res := ress, pure := memL [97], pan := memL [122, 137] }
def n4 : An := (.seq (.reg []) (.seq (.seq (.reg []) (.cond (.seq (.reg []) .leaf) .leaf)) (.seq (.reg []) (.seq (.reg []) (.seq (.seq (.reg []) (.block (.loop [(3, false, cSl), (4, false, cI .i64), (5, false, cI .i64), (6, false, cI .i64)] 17592185520376 (.seq (.seq (.reg []) (.cond .leaf .leaf)) (.seq (.block (.seq (.reg []) (.join [(4, false, cI .i64), (5, false, cI .i64)] 1099444518960 (.seq (.reg []) (.cond (.seq (.reg []) (.seq (.reg []) (.seq (.reg []) (.cond (.reg []) .leaf)))) .leaf)) (.reg [])))) (.reg [])))))) (.seq (.reg []) (.seq (.seq (.reg []) (.cond (.seq (.reg []) .leaf) .leaf)) (.seq (.reg []) (.seq (.seq (.reg []) (.block (.loop [(11, false, cI .i64), (12, false, cI .i64)] 2417777852252963511269376 (.seq (.seq (.reg []) (.cond .leaf .leaf)) (.seq (.blockJ [(11, false, cI .i64)] 2413129272746388704258048 (.seq (.reg []) (.seq (.reg []) (.cond (.reg []) .leaf)))) (.reg [])))))) (.seq (.reg []) .leaf))))))))))
/-- consols/consolslaw8.MailFirsts -/
def F4 (p0 : Sl) (h : Hp) (Q : Bool → Hp → Prop) : Prop :=
  condP (decide ((↑p0.len : Int) > (8 : Int))) (Q true h)
    (loopP ({ a := none, len := (0 : Nat), cap := (0 : Nat) : Sl }, (-1 : Int), (0 : Int), (0 : Int)) h fun (J1 : Sl × Int × Int × Int → Hp → Prop) (z1 : Sl × Int × Int × Int) (h1 : Hp) =>
      condP (decide (z1.snd.snd.snd < (↑p0.len : Int)))
        (callP Try.prog (42 : Nat) [Value.int IntKind.i64 (2 : Int)] cP h1 fun (p1 : Option Addr) (h2 : Hp) =>
          joinP
            (fun (z2 : Int × Int) (h3 : Hp) =>
              allocP (Obj.cells { toList := [Value.pointer p1] : Array Value } (23 : Nat)) h3 fun (k1 : Nat) (h4 : Hp) =>
                appendP cP (23 : Nat) (8 : Nat) z1.fst.a z1.fst.len z1.fst.cap (some { block := k1, off := (0 : Nat) : Addr }) (1 : Nat) h4 fun (p2 : Option Addr) (k2 k3 : Nat) (h5 : Hp) =>
                  J1 ({ a := p2, len := k2, cap := k3 : Sl }, z2.fst, z2.snd, IntKind.i64.wrap (z1.snd.snd.snd + (1 : Int))) h5)
            fun (J2 : Int × Int → Hp → Prop) =>
            idxP p0.a p0.len z1.snd.snd.snd fun (a1 : Addr) =>
              loadP cB (a1.add (z1.snd.snd.snd.toNat * (1 : Nat))) h2 fun (t1 : Bool) =>
                condP t1
                  (allocP (Obj.cells { toList := [Value.int IntKind.u8 (IntKind.u8.wrap z1.snd.snd.snd)] : Array Value } (5 : Nat)) h2 fun (k4 : Nat) (h6 : Hp) =>
                    callP Try.prog (43 : Nat) [Value.pointer p1, Value.slice (some { block := k4, off := (0 : Nat) : Addr }) (1 : Nat) (1 : Nat)] cB h6 fun (t2 : Bool) (h7 : Hp) =>
                      condP (decide (z1.snd.fst < (0 : Int))) (J2 (z1.snd.snd.snd, IntKind.i64.wrap (z1.snd.snd.fst + (1 : Int))) h7) (J2 (z1.snd.fst, IntKind.i64.wrap (z1.snd.snd.fst + (1 : Int))) h7))
                  (J2 (z1.snd.fst, z1.snd.snd.fst) h2))
        (callP Try.prog (47 : Nat) [Value.slice z1.fst.a z1.fst.len z1.fst.cap] (tupC [cSl, cI IntKind.i64, cB]) h1 fun (z3 : Sl × Int × Bool) (h8 : Hp) =>
          condP (decide (z1.snd.fst < (0 : Int)))
            (condP (!z3.snd.snd) (condP (z3.snd.fst == (0 : Int)) (condP ((↑z3.fst.len : Int) == (0 : Int)) (callP Try.prog (46 : Nat) [] cB h8 fun (t3 : Bool) (h9 : Hp) => Q t3 h9) (Q false h8)) (Q false h8)) (Q false h8))
            (loopP ((1 : Int), (0 : Int)) h8 fun (J3 : Int × Int → Hp → Prop) (z4 : Int × Int) (h10 : Hp) =>
              condP (decide (z4.snd < (↑p0.len : Int)))
                (joinP (fun (n1 : Int) (h11 : Hp) => J3 (n1, IntKind.i64.wrap (z4.snd + (1 : Int))) h11) fun (J4 : Int → Hp → Prop) =>
                  callP Try.prog (47 : Nat) [Value.slice z1.fst.a z1.fst.len z1.fst.cap] (tupC [cSl, cI IntKind.i64, cB]) h10 fun (z5 : Sl × Int × Bool) (h12 : Hp) =>
                    condP z5.snd.snd (J4 (IntKind.i64.wrap (z4.fst + (1 : Int))) h12) (J4 z4.fst h12))
                (condP z3.snd.snd
                  (condP (z3.snd.fst == z1.snd.fst)
                    (condP ((↑z3.fst.len : Int) == (1 : Int))
                      (idxP z3.fst.a z3.fst.len (0 : Int) fun (a2 : Addr) =>
                        loadP (cI IntKind.u8) (a2.add (0 : Nat)) h10 fun (n2 : Int) =>
                          condP (IntKind.i64.wrap n2 == z1.snd.fst) (condP (z4.fst == z1.snd.snd.fst) (callP Try.prog (46 : Nat) [] cB h10 fun (t4 : Bool) (h13 : Hp) => Q t4 h13) (Q false h10)) (Q false h10))
                      (Q false h10))
                    (Q false h10))
                  (Q false h10)))))
theorem e4 (p0 : Sl) (h : Hp) (Q : Bool → Hp → Prop) : fnD a4 Try.prog 4 n4 (cB) [Value.slice p0.a p0.len p0.cap] h Q = F4 p0 h Q := by kernel_rfl
theorem c4 {p0 : Sl} {h : Hp} {Q : Bool → Hp → Prop} (hk : F4 p0 h Q) : callP Try.prog 4 [Value.slice p0.a p0.len p0.cap] (cB) h Q :=
  spec_of (prem_of prog_ok dep_ok eqs_ok rfl (by kernel_rfl)) mix_ok ((e4 p0 h Q).mpr hk)
def a5 : Ann := { prom := 0, refs := [], dyn := 0, bcd := fun s => match s with | _ => none, eqs := memL eqL, cdc := cdcs, res := ress, pure := memL [97], pan := memL [122, 137] }
def n5 : An := (.seq (.reg []) (.seq (.join [(20, false, cB)] 2088960 (.reg []) (.cond (.seq (.reg []) .leaf) .leaf)) (.seq (.reg []) (.seq (.seq (.reg []) (.block (.loop [(7, false, cI .i64)] 140737471578256 (.seq (.join [(31, false, cB)] 4278190080 (.reg []) (.cond .leaf .leaf)) (.seq (.block (.seq (.reg [(0, []), (1, []), (2, []), (3, []), (6, []), (7, []), (8, []), (9, []), (4, []), (10, []), (5, [10]), (11, []), (12, [])]) (.cond (.seq (.reg []) .leaf) .leaf))) (.reg [])))))) (.seq (.seq (.reg []) (.block (.loop [(8, false, cI .i64)] 19342813113693329306951440 (.seq (.join [(54, false, cB)] 35888059530608640 (.reg []) (.cond .leaf .leaf)) (.seq (.block (.seq (.reg []) (.seq (.reg []) (.join [(83, false, cB)] 19305034181971109633589248 (.reg []) (.cond (.seq (.reg []) .leaf) .leaf))))) (.reg [])))))) (.seq (.reg []) .leaf))))))
/-- consols/consolslaw9.KeepPlays -/
def F5 (p0 : Sl) (p1 : Sl) (h : Hp) (Q : Bool → Hp → Prop) : Prop :=
  joinP
    (fun (t1 : Bool) (h1 : Hp) =>
      condP t1 (Q true h1)
        (callP Try.prog (48 : Nat) [] cP h1 fun (p1_1 : Option Addr) (h2 : Hp) =>
          allocP (Obj.cells { toList := [Value.slice none (0 : Nat) (0 : Nat)] : Array Value } (43 : Nat)) h2 fun (k1 : Nat) (h3 : Hp) =>
            loopP (0 : Int) h3 fun (J1 : Int → Hp → Prop) (n1 : Int) (h4 : Hp) =>
              joinP
                (fun (t2 : Bool) (h5 : Hp) =>
                  condP t2
                    (idxP p0.a p0.len n1 fun (a1 : Addr) =>
                      idxP p0.a p0.len n1 fun (a2 : Addr) =>
                        loadP cMsg (a1.add (n1.toNat * (7 : Nat))) h5 fun (x1 : Msg) =>
                          loadP cMsg (a2.add (n1.toNat * (7 : Nat))) h5 fun (x2 : Msg) =>
                            callP Try.prog (49 : Nat)
                              [Value.pointer p1_1,
                                Value.agg
                                  {
                                    toList :=
                                      [Value.int IntKind.i64 x1.Kind, Value.int IntKind.i64 x1.F_0, Value.int IntKind.i64 x1.F_1, Value.int IntKind.i64 x1.F_2, Value.int IntKind.i64 x1.F_3, Value.int IntKind.i64 x1.F_4,
                                        Value.int IntKind.i64 x1.F_5] :
                                    Array Value }]
                              cFrame h5 fun (x3 : Frame) (h6 : Hp) =>
                              (h6.rds (a2.add (n1.toNat * (7 : Nat)))
                                    [Value.int IntKind.i64 x2.Kind, Value.int IntKind.i64 x2.F_0, Value.int IntKind.i64 x2.F_1, Value.int IntKind.i64 x2.F_2, Value.int IntKind.i64 x2.F_3, Value.int IntKind.i64 x2.F_4,
                                      Value.int IntKind.i64 x2.F_5] ∧
                                  True) ∧
                                callP Try.prog (50 : Nat)
                                  [Value.pointer (some { block := k1, off := (0 : Nat) : Addr }),
                                    Value.agg
                                      {
                                        toList :=
                                          [Value.int IntKind.i64 x2.Kind, Value.int IntKind.i64 x2.F_0, Value.int IntKind.i64 x2.F_1, Value.int IntKind.i64 x2.F_2, Value.int IntKind.i64 x2.F_3, Value.int IntKind.i64 x2.F_4,
                                            Value.int IntKind.i64 x2.F_5] :
                                        Array Value }]
                                  cFrame h6 fun (x4 : Frame) (h7 : Hp) =>
                                  condP
                                    (!(x3.Seq == x4.Seq &&
                                        (x3.Msg_Kind == x4.Msg_Kind &&
                                          (x3.Msg_F_0 == x4.Msg_F_0 && (x3.Msg_F_1 == x4.Msg_F_1 && (x3.Msg_F_2 == x4.Msg_F_2 && (x3.Msg_F_3 == x4.Msg_F_3 && (x3.Msg_F_4 == x4.Msg_F_4 && (x3.Msg_F_5 == x4.Msg_F_5 && true)))))))))
                                    (Q false h7) (J1 (IntKind.i64.wrap (n1 + (1 : Int))) h7))
                    (loopP (0 : Int) h5 fun (J2 : Int → Hp → Prop) (n2 : Int) (h8 : Hp) =>
                      joinP
                        (fun (t3 : Bool) (h9 : Hp) =>
                          condP t3
                            (idxP p1.a p1.len n2 fun (a3 : Addr) =>
                              loadP (cI IntKind.i64) (a3.add (n2.toNat * (1 : Nat))) h9 fun (n3 : Int) =>
                                callP Try.prog (51 : Nat) [Value.pointer p1_1, Value.int IntKind.i64 n3] (tupC [cSl, cB]) h9 fun (z1 : Sl × Bool) (h10 : Hp) =>
                                  idxP p1.a p1.len n2 fun (a4 : Addr) =>
                                    loadP (cI IntKind.i64) (a4.add (n2.toNat * (1 : Nat))) h10 fun (n4 : Int) =>
                                      callP Try.prog (52 : Nat) [Value.pointer (some { block := k1, off := (0 : Nat) : Addr }), Value.int IntKind.i64 n4] (tupC [cSl, cB]) h10 fun (z2 : Sl × Bool) (h11 : Hp) =>
                                        joinP (fun (t4 : Bool) (h12 : Hp) => condP t4 (Q false h12) (J2 (IntKind.i64.wrap (n2 + (1 : Int))) h12)) fun (J3 : Bool → Hp → Prop) =>
                                          callP Try.prog (53 : Nat) [Value.slice z1.fst.a z1.fst.len z1.fst.cap, Value.slice z2.fst.a z2.fst.len z2.fst.cap] cB h11 fun (t5 : Bool) (h13 : Hp) =>
                                            condP (!t5) (J3 true h13) (J3 (!z1.snd == z2.snd) h13))
                            (condP (!p1_1.isNone)
                              (callP Try.prog (54 : Nat) [Value.pointer p1_1] (cI IntKind.i64) h9 fun (n5 : Int) (h14 : Hp) =>
                                callP Try.prog (55 : Nat) [Value.pointer (some { block := k1, off := (0 : Nat) : Addr })] (cI IntKind.i64) h14 fun (n6 : Int) (h15 : Hp) =>
                                  condP (n5 == n6) (callP Try.prog (56 : Nat) [] cB h15 fun (t6 : Bool) (h16 : Hp) => Q t6 h16) (Q false h15))
                              (Q false h9)))
                        fun (J4 : Bool → Hp → Prop) => condP (!p1_1.isNone) (J4 (decide (n2 < (↑p1.len : Int))) h8) (J4 false h8)))
                fun (J5 : Bool → Hp → Prop) => condP (!p1_1.isNone) (J5 (decide (n1 < (↑p0.len : Int))) h4) (J5 false h4)))
    fun (J6 : Bool → Hp → Prop) => condP (decide ((↑p0.len : Int) > (200 : Int))) (J6 true h) (J6 (decide ((↑p1.len : Int) > (40 : Int))) h)
theorem e5 (p0 : Sl) (p1 : Sl) (h : Hp) (Q : Bool → Hp → Prop) : fnD a5 Try.prog 5 n5 (cB) [Value.slice p0.a p0.len p0.cap, Value.slice p1.a p1.len p1.cap] h Q = F5 p0 p1 h Q := by kernel_rfl
theorem c5 {p0 : Sl} {p1 : Sl} {h : Hp} {Q : Bool → Hp → Prop} (hk : F5 p0 p1 h Q) : callP Try.prog 5 [Value.slice p0.a p0.len p0.cap, Value.slice p1.a p1.len p1.cap] (cB) h Q :=
  spec_of (prem_of prog_ok dep_ok eqs_ok rfl (by kernel_rfl)) mix_ok ((e5 p0 p1 h Q).mpr hk)
def a6 : Ann := { prom := 0, refs := [], dyn := 0, bcd := fun s => match s with | _ => none, eqs := memL eqL, cdc := cdcs, res := ress, pure := memL [97], pan := memL [122, 137] }
def n6 : An := (.seq (.reg []) (.seq (.join [(26, false, cB)] 134209536 (.reg []) (.cond (.seq (.reg []) .leaf) .leaf)) (.seq (.reg []) (.seq (.seq (.reg []) (.block (.loop [(6, false, cI .i64)] 4397778075712 (.seq (.join [(34, false, cB)] 34091302912 (.reg []) (.cond .leaf .leaf)) (.seq (.block (.reg [])) (.reg [])))))) (.seq (.reg []) (.seq (.reg []) (.seq (.reg []) (.seq (.join [(72, false, cB)] 9444660908145252499456 (.reg []) (.cond (.seq (.reg []) .leaf) .leaf)) (.seq (.seq (.reg []) (.cond (.seq (.reg []) .leaf) .leaf)) (.seq (.seq (.reg []) (.block (.loop [(12, false, cI .i64)] 20769187431721458874892726967472144 (.seq (.seq (.reg []) (.cond .leaf .leaf)) (.seq (.block (.join [(113, false, cB)] 20769187279396805603449450954489856 (.reg []) (.cond (.seq (.reg []) .leaf) .leaf))) (.reg [])))))) (.seq (.reg []) .leaf)))))))))))
/-- consols/consolslaw9.KeepLast -/
def F6 (p0 : Int) (p1 : Int) (h : Hp) (Q : Bool → Hp → Prop) : Prop :=
  joinP
    (fun (t1 : Bool) (h1 : Hp) =>
      condP t1 (Q true h1)
        (callP Try.prog (48 : Nat) [] cP h1 fun (p1_1 : Option Addr) (h2 : Hp) =>
          loopP (0 : Int) h2 fun (J1 : Int → Hp → Prop) (n1 : Int) (h3 : Hp) =>
            joinP
              (fun (t2 : Bool) (h4 : Hp) =>
                condP t2
                  (callP Try.prog (49 : Nat)
                    [Value.pointer p1_1,
                      Value.agg
                        {
                          toList :=
                            [Value.int IntKind.i64 (18 : Int), Value.int IntKind.i64 n1, Value.int IntKind.i64 (0 : Int), Value.int IntKind.i64 (0 : Int), Value.int IntKind.i64 (0 : Int), Value.int IntKind.i64 (0 : Int),
                              Value.int IntKind.i64 (0 : Int)] :
                          Array Value }]
                    cFrame h4 fun (x1 : Frame) (h5 : Hp) => J1 (IntKind.i64.wrap (n1 + (1 : Int))) h5)
                  (callP Try.prog (51 : Nat) [Value.pointer p1_1, Value.int IntKind.i64 (IntKind.i64.wrap (IntKind.i64.wrap (p0 + (1 : Int)) - p1))] (tupC [cSl, cB]) h4 fun (z1 : Sl × Bool) (h6 : Hp) =>
                    callP Try.prog (51 : Nat) [Value.pointer none, Value.int IntKind.i64 (1 : Int)] (tupC [cSl, cB]) h6 fun (z2 : Sl × Bool) (h7 : Hp) =>
                      joinP
                        (fun (t3 : Bool) (h8 : Hp) =>
                          condP t3 (Q false h8)
                            (condP (!z1.snd) (condP ((↑z1.fst.len : Int) == (0 : Int)) (callP Try.prog (56 : Nat) [] cB h8 fun (t4 : Bool) (h9 : Hp) => Q t4 h9) (Q false h8))
                              (loopP (0 : Int) h8 fun (J2 : Int → Hp → Prop) (n2 : Int) (h10 : Hp) =>
                                condP (decide (n2 < (↑z1.fst.len : Int)))
                                  (joinP (fun (t5 : Bool) (h11 : Hp) => condP t5 (Q false h11) (J2 (IntKind.i64.wrap (n2 + (1 : Int))) h11)) fun (J3 : Bool → Hp → Prop) =>
                                    idxP z1.fst.a z1.fst.len n2 fun (a1 : Addr) =>
                                      loadP (cI IntKind.i64) ((a1.add (n2.toNat * (8 : Nat))).add (0 : Nat)) h10 fun (n3 : Int) =>
                                        condP (n3 != IntKind.i64.wrap (IntKind.i64.wrap (IntKind.i64.wrap (p0 - p1) + n2) + (1 : Int))) (J3 true h10)
                                          (idxP z1.fst.a z1.fst.len n2 fun (a2 : Addr) =>
                                            atP (6 : Nat) (0 : Int)
                                              (loadP (cI IntKind.i64) { block := (a2.add (n2.toNat * (8 : Nat))).block, off := (a2.add (n2.toNat * (8 : Nat))).off + (1 : Nat) + (1 : Nat) : Addr } h10 fun (n4 : Int) =>
                                                J3 (n4 != IntKind.i64.wrap (IntKind.i64.wrap (p0 - p1) + n2)) h10)))
                                  (condP ((↑z1.fst.len : Int) == p1) (callP Try.prog (56 : Nat) [] cB h10 fun (t6 : Bool) (h12 : Hp) => Q t6 h12) (Q false h10)))))
                        fun (J4 : Bool → Hp → Prop) =>
                        condP z2.snd (J4 true h7)
                          (callP Try.prog (54 : Nat) [Value.pointer none] (cI IntKind.i64) h7 fun (n5 : Int) (h13 : Hp) =>
                            condP (n5 != (0 : Int)) (J4 true h13) (condP (decide (p1 ≤ p0)) (J4 (!z1.snd == decide (p1 ≤ (64 : Int))) h13) (J4 (!z1.snd == false) h13)))))
              fun (J5 : Bool → Hp → Prop) => condP (!p1_1.isNone) (J5 (decide (n1 < p0)) h3) (J5 false h3)))
    fun (J6 : Bool → Hp → Prop) => condP (decide (p0 < (0 : Int))) (J6 true h) (condP (decide (p0 > (300 : Int))) (J6 true h) (condP (decide (p1 < (0 : Int))) (J6 true h) (J6 (decide (p1 > (300 : Int))) h)))
theorem e6 (p0 : Int) (p1 : Int) (h : Hp) (Q : Bool → Hp → Prop) : fnD a6 Try.prog 6 n6 (cB) [Value.int IntKind.i64 p0, Value.int IntKind.i64 p1] h Q = F6 p0 p1 h Q := by kernel_rfl
theorem c6 {p0 : Int} {p1 : Int} {h : Hp} {Q : Bool → Hp → Prop} (hk : F6 p0 p1 h Q) : callP Try.prog 6 [Value.int IntKind.i64 p0, Value.int IntKind.i64 p1] (cB) h Q :=
  spec_of (prem_of prog_ok dep_ok eqs_ok rfl (by kernel_rfl)) mix_ok ((e6 p0 p1 h Q).mpr hk)
def a7 : Ann := { prom := 0, refs := [], dyn := 0, bcd := fun s => match s with | _ => none, eqs := memL eqL, cdc := cdcs, res := ress, pure := memL [97], pan := memL [122, 137] }
def n7 : An := (.seq (.reg []) (.seq (.join [(30, false, cB)] 2147475456 (.reg []) (.cond (.seq (.reg []) .leaf) .leaf)) (.seq (.reg []) (.seq (.seq (.reg []) (.block (.loop [(6, false, cI .i64)] 17587891077184 (.seq (.seq (.reg []) (.cond .leaf .leaf)) (.seq (.block (.reg [])) (.reg [])))))) (.seq (.reg []) (.seq (.seq (.reg []) (.block (.loop [(9, false, cI .i64)] 1151795604700004864 (.seq (.seq (.reg []) (.cond .leaf .leaf)) (.seq (.block (.reg [])) (.reg [])))))) (.seq (.reg []) (.seq (.join [(81, false, cB)] 4835629491482221860618240 (.reg []) (.cond (.seq (.reg []) .leaf) .leaf)) (.seq (.seq (.reg []) (.block (.loop [(12, false, cI .i64)] 5192296853699124350071979630399504 (.seq (.seq (.reg []) (.cond .leaf .leaf)) (.seq (.block (.join [(111, false, cB)] 5192296549049817807185427604439040 (.reg [(0, []), (1, []), (2, []), (3, []), (5, []), (6, []), (7, []), (4, []), (8, []), (9, []), (10, []), (11, []), (12, []), (13, []), (15, []), (16, []), (17, []), (18, []), (19, []), (20, []), (14, []), (21, []), (22, []), (23, [])]) (.cond (.seq (.reg []) .leaf) .leaf))) (.reg [])))))) (.seq (.reg []) .leaf))))))))))
/-- consols/consolslaw9.KeepOwn -/
def F7 (p0 : Sl) (p1 : Int) (h : Hp) (Q : Bool → Hp → Prop) : Prop :=
  joinP
    (fun (t1 : Bool) (h1 : Hp) =>
      condP t1 (Q true h1)
        (callP Try.prog (48 : Nat) [] cP h1 fun (p1_1 : Option Addr) (h2 : Hp) =>
          loopP (0 : Int) h2 fun (J1 : Int → Hp → Prop) (n1 : Int) (h3 : Hp) =>
            condP (decide (n1 < (↑p0.len : Int)))
              (idxP p0.a p0.len n1 fun (a1 : Addr) =>
                loadP cMsg (a1.add (n1.toNat * (7 : Nat))) h3 fun (x1 : Msg) =>
                  callP Try.prog (49 : Nat)
                    [Value.pointer p1_1,
                      Value.agg
                        {
                          toList :=
                            [Value.int IntKind.i64 x1.Kind, Value.int IntKind.i64 x1.F_0, Value.int IntKind.i64 x1.F_1, Value.int IntKind.i64 x1.F_2, Value.int IntKind.i64 x1.F_3, Value.int IntKind.i64 x1.F_4,
                              Value.int IntKind.i64 x1.F_5] :
                          Array Value }]
                    cFrame h3 fun (x2 : Frame) (h4 : Hp) => J1 (IntKind.i64.wrap (n1 + (1 : Int))) h4)
              (callP Try.prog (51 : Nat) [Value.pointer p1_1, Value.int IntKind.i64 p1] (tupC [cSl, cB]) h3 fun (z1 : Sl × Bool) (h5 : Hp) =>
                loopP (0 : Int) h5 fun (J2 : Int → Hp → Prop) (n2 : Int) (h6 : Hp) =>
                  condP (decide (n2 < (↑z1.fst.len : Int)))
                    (idxP z1.fst.a z1.fst.len n2 fun (a2 : Addr) => storeP (cI IntKind.i64) ((a2.add (n2.toNat * (8 : Nat))).add (0 : Nat)) (-1 : Int) h6 fun (h7 : Hp) => J2 (IntKind.i64.wrap (n2 + (1 : Int))) h7)
                    (callP Try.prog (51 : Nat) [Value.pointer p1_1, Value.int IntKind.i64 p1] (tupC [cSl, cB]) h6 fun (z2 : Sl × Bool) (h8 : Hp) =>
                      joinP
                        (fun (t2 : Bool) (h9 : Hp) =>
                          condP t2 (Q false h9)
                            (loopP (0 : Int) h9 fun (J3 : Int → Hp → Prop) (n3 : Int) (h10 : Hp) =>
                              condP (decide (n3 < (↑z2.fst.len : Int)))
                                (joinP (fun (t3 : Bool) (h11 : Hp) => condP t3 (Q false h11) (J3 (IntKind.i64.wrap (n3 + (1 : Int))) h11)) fun (J4 : Bool → Hp → Prop) =>
                                  idxP z2.fst.a z2.fst.len n3 fun (a3 : Addr) =>
                                    loadP (cI IntKind.i64) ((a3.add (n3.toNat * (8 : Nat))).add (0 : Nat)) h10 fun (n4 : Int) =>
                                      condP (n4 != IntKind.i64.wrap (p1 + n3)) (J4 true h10)
                                        (idxP z2.fst.a z2.fst.len n3 fun (a4 : Addr) =>
                                          idxP p0.a p0.len (IntKind.i64.wrap (IntKind.i64.wrap (p1 + n3) - (1 : Int))) fun (a5 : Addr) =>
                                            loadP cMsg { block := (a4.add (n3.toNat * (8 : Nat))).block, off := (a4.add (n3.toNat * (8 : Nat))).off + (1 : Nat) : Addr } h10 fun (x3 : Msg) =>
                                              loadP cMsg (a5.add ((IntKind.i64.wrap (IntKind.i64.wrap (p1 + n3) - (1 : Int))).toNat * (7 : Nat))) h10 fun (x4 : Msg) =>
                                                J4 (!(x3.Kind == x4.Kind && (x3.F_0 == x4.F_0 && (x3.F_1 == x4.F_1 && (x3.F_2 == x4.F_2 && (x3.F_3 == x4.F_3 && (x3.F_4 == x4.F_4 && (x3.F_5 == x4.F_5 && true)))))))) h10))
                                (callP Try.prog (56 : Nat) [] cB h10 fun (t4 : Bool) (h12 : Hp) => Q t4 h12)))
                        fun (J5 : Bool → Hp → Prop) => condP (!z1.snd) (J5 true h8) (condP (!z2.snd) (J5 true h8) (J5 ((↑z2.fst.len : Int) != IntKind.i64.wrap (IntKind.i64.wrap ((↑p0.len : Int) + (1 : Int)) - p1)) h8))))))
    fun (J6 : Bool → Hp → Prop) => condP (decide ((↑p0.len : Int) < (1 : Int))) (J6 true h) (condP (decide ((↑p0.len : Int) > (64 : Int))) (J6 true h) (condP (decide (p1 < (1 : Int))) (J6 true h) (J6 (decide (p1 > (↑p0.len : Int))) h)))
theorem e7 (p0 : Sl) (p1 : Int) (h : Hp) (Q : Bool → Hp → Prop) : fnD a7 Try.prog 7 n7 (cB) [Value.slice p0.a p0.len p0.cap, Value.int IntKind.i64 p1] h Q = F7 p0 p1 h Q := by kernel_rfl
theorem c7 {p0 : Sl} {p1 : Int} {h : Hp} {Q : Bool → Hp → Prop} (hk : F7 p0 p1 h Q) : callP Try.prog 7 [Value.slice p0.a p0.len p0.cap, Value.int IntKind.i64 p1] (cB) h Q :=
  spec_of (prem_of prog_ok dep_ok eqs_ok rfl (by kernel_rfl)) mix_ok ((e7 p0 p1 h Q).mpr hk)
def a8 : Ann := { prom := 2048, refs := [(72, 11), (76, 11), (106, 11), (110, 11), (116, 11), (121, 11), (125, 11), (129, 11), (133, 11), (141, 11), (150, 11), (170, 11), (176, 11), (186, 11), (192, 11)], dyn := 0, bcd := fun s => match s with | 11 => some (cL8Act) | _ => none, eqs := memL eqL, cdc := cdcs, res := ress, pure := memL [97], pan := memL [122, 137] }
def n8 : An := (.seq (.reg []) (.seq (.join [(30, false, cB)] 2139095040 (.reg []) (.cond (.seq (.reg []) .leaf) .leaf)) (.seq (.reg []) (.seq (.reg []) (.seq (.seq (.reg []) (.block (.loop [(5, false, cSl), (6, false, cSl), (7, false, cI .i64)] 4611686016279905264 (.seq (.seq (.reg []) (.cond .leaf .leaf)) (.seq (.blockJ [(5, false, cSl), (6, false, cSl)] 4611685880988435312 (.seq (.reg [(0, []), (1, []), (2, []), (5, []), (6, []), (7, []), (3, []), (8, []), (4, [8]), (9, []), (10, []), (11, [])]) (.seq (.seq (.reg []) (.cond (.seq (.reg []) .leaf) .leaf)) (.seq (.reg []) (.cond (.reg []) .leaf))))) (.reg [])))))) (.seq (.seq (.reg []) (.block (.loop [(10, false, cI .i64)] 6427752177035961102167848369364650410088807363445152922205200 (.seq (.seq (.reg []) (.cond .leaf .leaf)) (.seq (.blockJ [] 6427752177035961102167848369364650410088516827225991996766224 (.seq (.reg []) (.seq (.seq (.reg []) (.cond (.seq (.reg []) .leaf) .leaf)) (.seq (.seq (.reg []) (.cond (.seq (.reg []) (.seq (.reg []) (.seq (.join [(105, false, cB)] 81127162534528110935239206895616 (.reg []) (.cond (.seq (.reg []) .leaf) .leaf)) .leaf))) .leaf)) (.seq (.join [(115, false, cB)] 82995620098142635374792152262377472 (.reg []) (.cond .leaf .leaf)) (.seq (.reg []) (.seq (.seq (.reg []) (.blockJ [(18, false, cB)] 6129982163463555433101081109655007766249004723672449024 (.seq (.reg []) (.cond (.reg [(0, []), (1, []), (2, []), (3, []), (5, []), (6, []), (8, []), (9, []), (10, []), (11, []), (13, []), (14, []), (4, []), (12, []), (7, [12]), (15, []), (16, []), (17, [])]) (.seq (.reg []) (.cond (.seq (.reg []) (.seq (.reg []) (.reg []))) (.seq (.reg []) (.cond (.seq (.reg []) (.reg [])) .leaf)))))))) (.join [(201, false, cB)] 6427746047053797638612414935976541808852077500174682606796800 (.reg [(0, []), (1, []), (2, []), (3, []), (4, []), (5, []), (6, []), (9, []), (10, []), (11, []), (12, []), (7, []), (13, []), (14, []), (15, []), (16, []), (17, []), (8, [13, 16]), (18, []), (19, [])]) (.cond (.seq (.reg []) .leaf) .leaf))))))))) (.reg [])))))) (.seq (.reg []) .leaf)))))))
/-- consols/consolslaw8.MailPlays -/
def F8 (p0 : Sl) (p1 : Sl) (h : Hp) (Q : Bool → Hp → Prop) : Prop :=
  joinP
    (fun (t1 : Bool) (h1 : Hp) =>
      condP t1 (Q true h1)
        (loopP ({ a := none, len := (0 : Nat), cap := (0 : Nat) : Sl }, { a := none, len := (0 : Nat), cap := (0 : Nat) : Sl }, (0 : Int)) h1 fun (J1 : Sl × Sl × Int → Hp → Prop) (z1 : Sl × Sl × Int) (h2 : Hp) =>
          condP (decide (z1.snd.snd < (↑p0.len : Int)))
            (joinP (fun (z2 : Sl × Sl) (h3 : Hp) => J1 (z2.fst, z2.snd, IntKind.i64.wrap (z1.snd.snd + (1 : Int))) h3) fun (J2 : Sl × Sl → Hp → Prop) =>
              idxP p0.a p0.len z1.snd.snd fun (a1 : Addr) =>
                idxP p0.a p0.len z1.snd.snd fun (a2 : Addr) =>
                  loadP (cI IntKind.i64) (a1.add (z1.snd.snd.toNat * (1 : Nat))) h2 fun (n1 : Int) =>
                    loadP (cI IntKind.i64) (a2.add (z1.snd.snd.toNat * (1 : Nat))) h2 fun (n2 : Int) =>
                      callP Try.prog (42 : Nat) [Value.int IntKind.i64 n1] cP h2 fun (p1 : Option Addr) (h4 : Hp) =>
                        (h4.rds (a2.add (z1.snd.snd.toNat * (1 : Nat))) [Value.int IntKind.i64 n2] ∧ True) ∧
                          callP Try.prog (57 : Nat) [Value.int IntKind.i64 n2] cP h4 fun (p2 : Option Addr) (h5 : Hp) =>
                            condP (!p1.isNone == p2.isNone) (Q false h5)
                              (condP (!p2.isNone)
                                (allocP (Obj.cells { toList := [Value.pointer p1] : Array Value } (23 : Nat)) h5 fun (k1 : Nat) (h6 : Hp) =>
                                  appendP cP (23 : Nat) (8 : Nat) z1.fst.a z1.fst.len z1.fst.cap (some { block := k1, off := (0 : Nat) : Addr }) (1 : Nat) h6 fun (p3 : Option Addr) (k2 k3 : Nat) (h7 : Hp) =>
                                    allocP (Obj.cells { toList := [Value.pointer p2] : Array Value } (60 : Nat)) h7 fun (k4 : Nat) (h8 : Hp) =>
                                      appendP cP (60 : Nat) (8 : Nat) z1.snd.fst.a z1.snd.fst.len z1.snd.fst.cap (some { block := k4, off := (0 : Nat) : Addr }) (1 : Nat) h8 fun (p4 : Option Addr) (k5 k6 : Nat) (h9 : Hp) =>
                                        J2 ({ a := p3, len := k2, cap := k3 : Sl }, { a := p4, len := k5, cap := k6 : Sl }) h9)
                                (J2 (z1.fst, z1.snd.fst) h5)))
            (loopP (0 : Int) h2 fun (J3 : Int → Hp → Prop) (n3 : Int) (h10 : Hp) =>
              condP (decide (n3 < (↑p1.len : Int)))
                (joinP (fun (u1 : PUnit) (h11 : Hp) => J3 (IntKind.i64.wrap (n3 + (1 : Int))) h11) fun (J4 : PUnit → Hp → Prop) =>
                  idxP p1.a p1.len n3 fun (a3 : Addr) =>
                    loadP cL8Act (a3.add (n3.toNat * (3 : Nat))) h10 fun (x1 : L8Act) =>
                      condP (decide ((↑x1.B.len : Int) > (50 : Int))) (Q true h10)
                        (condP (x1.Kind == (4 : Int))
                          (callP Try.prog (47 : Nat) [Value.slice z1.fst.a z1.fst.len z1.fst.cap] (tupC [cSl, cI IntKind.i64, cB]) h10 fun (z3 : Sl × Int × Bool) (h12 : Hp) =>
                            callP Try.prog (58 : Nat) [Value.slice z1.snd.fst.a z1.snd.fst.len z1.snd.fst.cap] (tupC [cSl, cI IntKind.i64, cB]) h12 fun (z4 : Sl × Int × Bool) (h13 : Hp) =>
                              joinP (fun (t2 : Bool) (h14 : Hp) => condP t2 (Q false h14) (J4 PUnit.unit h14)) fun (J5 : Bool → Hp → Prop) =>
                                strP z3.fst.a z3.fst.len h13 fun (u2 : ByteArray) =>
                                  strP z4.fst.a z4.fst.len h13 fun (u3 : ByteArray) => condP (!strEq u2 u3) (J5 true h13) (condP (z3.snd.fst != z4.snd.fst) (J5 true h13) (J5 (!z3.snd.snd == z4.snd.snd) h13)))
                          (joinP
                            (fun (t3 : Bool) (h15 : Hp) =>
                              condP t3 (J4 PUnit.unit h15)
                                (joinP
                                  (fun (t4 : Bool) (h16 : Hp) =>
                                    joinP (fun (t5 : Bool) (h17 : Hp) => condP t5 (Q false h17) (J4 PUnit.unit h17)) fun (J6 : Bool → Hp → Prop) =>
                                      condP (!t4) ((True ∧ True ∧ True) ∧ J6 true h16)
                                        (idxP z1.fst.a z1.fst.len x1.Box fun (a4 : Addr) =>
                                          idxP z1.snd.fst.a z1.snd.fst.len x1.Box fun (a5 : Addr) =>
                                            loadP cP (a4.add (x1.Box.toNat * (1 : Nat))) h16 fun (p5 : Option Addr) =>
                                              loadP cP (a5.add (x1.Box.toNat * (1 : Nat))) h16 fun (p6 : Option Addr) =>
                                                nilP p6 fun (a6 : Addr) =>
                                                  loadP cSl (a6.add (0 : Nat)) h16 fun (s1 : Sl) =>
                                                    callP Try.prog (61 : Nat) [Value.pointer p5] (cI IntKind.i64) h16 fun (n4 : Int) (h18 : Hp) =>
                                                      (h18.rds (a5.add (x1.Box.toNat * (1 : Nat))) [Value.pointer p6] ∧ h18.rds (a6.add (0 : Nat)) [Value.slice s1.a s1.len s1.cap] ∧ True) ∧ J6 (n4 != (↑s1.len : Int)) h18))
                                  fun (J7 : Bool → Hp → Prop) =>
                                  condP (x1.Kind == (1 : Int))
                                    (idxP z1.fst.a z1.fst.len x1.Box fun (a7 : Addr) =>
                                      idxP z1.snd.fst.a z1.snd.fst.len x1.Box fun (a8 : Addr) =>
                                        loadP cP (a7.add (x1.Box.toNat * (1 : Nat))) h15 fun (p7 : Option Addr) =>
                                          loadP cP (a8.add (x1.Box.toNat * (1 : Nat))) h15 fun (p8 : Option Addr) =>
                                            callP Try.prog (43 : Nat) [Value.pointer p7, Value.slice x1.B.a x1.B.len x1.B.cap] cB h15 fun (t6 : Bool) (h19 : Hp) =>
                                              (h19.rds (a8.add (x1.Box.toNat * (1 : Nat))) [Value.pointer p8] ∧ True) ∧
                                                callP Try.prog (59 : Nat) [Value.pointer p8, Value.slice x1.B.a x1.B.len x1.B.cap] cB h19 fun (t7 : Bool) (h20 : Hp) => J7 (t6 == t7) h20)
                                    (condP (x1.Kind == (2 : Int))
                                      (idxP z1.fst.a z1.fst.len x1.Box fun (a9 : Addr) =>
                                        loadP cP (a9.add (x1.Box.toNat * (1 : Nat))) h15 fun (p9 : Option Addr) =>
                                          callP Try.prog (45 : Nat) [Value.pointer p9] (tupC [cSl, cB]) h15 fun (z5 : Sl × Bool) (h21 : Hp) =>
                                            idxP z1.snd.fst.a z1.snd.fst.len x1.Box fun (a10 : Addr) =>
                                              loadP cP (a10.add (x1.Box.toNat * (1 : Nat))) h21 fun (p10 : Option Addr) =>
                                                callP Try.prog (60 : Nat) [Value.pointer p10] (tupC [cSl, cB]) h21 fun (z6 : Sl × Bool) (h22 : Hp) =>
                                                  strP z5.fst.a z5.fst.len h22 fun (u4 : ByteArray) => strP z6.fst.a z6.fst.len h22 fun (u5 : ByteArray) => condP (strEq u4 u5) (J7 (z5.snd == z6.snd) h22) (J7 false h22))
                                      (condP (x1.Kind == (3 : Int))
                                        (idxP z1.fst.a z1.fst.len x1.Box fun (a11 : Addr) =>
                                          loadP cP (a11.add (x1.Box.toNat * (1 : Nat))) h15 fun (p11 : Option Addr) =>
                                            callP Try.prog (44 : Nat) [Value.pointer p11] (tupC []) h15 fun (u6 : PUnit) (h23 : Hp) =>
                                              idxP z1.snd.fst.a z1.snd.fst.len x1.Box fun (a12 : Addr) =>
                                                loadP cP (a12.add (x1.Box.toNat * (1 : Nat))) h23 fun (p12 : Option Addr) =>
                                                  nilP p12 fun (a13 : Addr) => storeP cB { block := a13.block, off := a13.off + (2 : Nat) : Addr } true h23 fun (h24 : Hp) => J7 true h24)
                                        (J7 true h15)))))
                            fun (J8 : Bool → Hp → Prop) => condP (decide (x1.Box < (0 : Int))) (J8 true h10) (J8 (decide (x1.Box ≥ (↑z1.fst.len : Int))) h10))))
                (callP Try.prog (46 : Nat) [] cB h10 fun (t8 : Bool) (h25 : Hp) => Q t8 h25))))
    fun (J9 : Bool → Hp → Prop) => condP (decide ((↑p0.len : Int) > (6 : Int))) (J9 true h) (J9 (decide ((↑p1.len : Int) > (80 : Int))) h)
theorem e8 (p0 : Sl) (p1 : Sl) (h : Hp) (Q : Bool → Hp → Prop) : fnD a8 Try.prog 8 n8 (cB) [Value.slice p0.a p0.len p0.cap, Value.slice p1.a p1.len p1.cap] h Q = F8 p0 p1 h Q := by kernel_rfl
theorem c8 {p0 : Sl} {p1 : Sl} {h : Hp} {Q : Bool → Hp → Prop} (hk : F8 p0 p1 h Q) : callP Try.prog 8 [Value.slice p0.a p0.len p0.cap, Value.slice p1.a p1.len p1.cap] (cB) h Q :=
  spec_of (prem_of prog_ok dep_ok eqs_ok rfl (by kernel_rfl)) mix_ok ((e8 p0 p1 h Q).mpr hk)
def a9 : Ann := { prom := 0, refs := [], dyn := 0, bcd := fun s => match s with | _ => none, eqs := memL eqL, cdc := cdcs, res := ress, pure := memL [97], pan := memL [122, 137] }
def n9 : An := (.seq (.reg []) (.seq (.join [(27, false, cB)] 268369920 (.reg []) (.cond (.seq (.reg []) .leaf) .leaf)) (.seq (.reg []) (.seq (.reg []) (.seq (.reg []) (.seq (.reg []) (.seq (.reg []) (.seq (.reg []) (.seq (.reg []) (.seq (.reg []) (.seq (.reg []) (.seq (.reg []) .leaf))))))))))))
/-- consols/consolslaw8.MailOwn -/
def F9 (p0 : Sl) (p1 : Int) (h : Hp) (Q : Bool → Hp → Prop) : Prop :=
  joinP
    (fun (t1 : Bool) (h1 : Hp) =>
      condP t1 (Q true h1)
        (callP Try.prog (42 : Nat) [Value.int IntKind.i64 (3 : Int)] cP h1 fun (p1_1 : Option Addr) (h2 : Hp) =>
          allocP (Obj.cells { toList := [] : Array Value } (5 : Nat)) h2 fun (k1 : Nat) (h3 : Hp) =>
            appendP (cI IntKind.u8) (5 : Nat) (1 : Nat) (some { block := k1, off := (0 : Nat) : Addr }) (0 : Nat) (0 : Nat) p0.a p0.len h3 fun (p2 : Option Addr) (k2 k3 : Nat) (h4 : Hp) =>
              callP Try.prog (43 : Nat) [Value.pointer p1_1, Value.slice p2 k2 k3] cB h4 fun (t2 : Bool) (h5 : Hp) =>
                idxP p2 k2 (0 : Int) fun (a1 : Addr) =>
                  loadP (cI IntKind.u8) (a1.add (0 : Nat)) h5 fun (n1 : Int) =>
                    idxP p2 k2 (0 : Int) fun (a2 : Addr) =>
                      storeP (cI IntKind.u8) (a2.add (0 : Nat)) (xorI IntKind.u8 n1 p1) h5 fun (h6 : Hp) =>
                        callP Try.prog (45 : Nat) [Value.pointer p1_1] (tupC [cSl, cB]) h6 fun (z1 : Sl × Bool) (h7 : Hp) =>
                          callP Try.prog (44 : Nat) [Value.pointer none] (tupC []) h7 fun (u1 : PUnit) (h8 : Hp) =>
                            callP Try.prog (45 : Nat) [Value.pointer none] (tupC [cSl, cB]) h8 fun (z2 : Sl × Bool) (h9 : Hp) =>
                              allocP (Obj.cells { toList := [Value.pointer none, Value.pointer p1_1] : Array Value } (23 : Nat)) h9 fun (k4 : Nat) (h10 : Hp) =>
                                callP Try.prog (47 : Nat) [Value.slice (some { block := k4, off := (0 : Nat) : Addr }) (2 : Nat) (2 : Nat)] (tupC [cSl, cI IntKind.i64, cB]) h10 fun (z3 : Sl × Int × Bool) (h11 : Hp) =>
                                  condP t2
                                    (condP z1.snd
                                      (strP z1.fst.a z1.fst.len h11 fun (u2 : ByteArray) =>
                                        strP p0.a p0.len h11 fun (u3 : ByteArray) =>
                                          condP (strEq u2 u3)
                                            (callP Try.prog (43 : Nat) [Value.pointer none, Value.slice p0.a p0.len p0.cap] cB h11 fun (t3 : Bool) (h12 : Hp) =>
                                              condP (!t3)
                                                (condP (!z2.snd)
                                                  (callP Try.prog (61 : Nat) [Value.pointer none] (cI IntKind.i64) h12 fun (n2 : Int) (h13 : Hp) =>
                                                    condP (n2 == (0 : Int)) (condP (z3.snd.fst == (0 : Int)) (condP (!z3.snd.snd) (callP Try.prog (46 : Nat) [] cB h13 fun (t4 : Bool) (h14 : Hp) => Q t4 h14) (Q false h13)) (Q false h13))
                                                      (Q false h13))
                                                  (Q false h12))
                                                (Q false h12))
                                            (Q false h11))
                                      (Q false h11))
                                    (Q false h11)))
    fun (J1 : Bool → Hp → Prop) => condP (decide ((↑p0.len : Int) < (1 : Int))) (J1 true h) (condP (decide ((↑p0.len : Int) > (100 : Int))) (J1 true h) (J1 (p1 == (0 : Int)) h))
theorem e9 (p0 : Sl) (p1 : Int) (h : Hp) (Q : Bool → Hp → Prop) : fnD a9 Try.prog 9 n9 (cB) [Value.slice p0.a p0.len p0.cap, Value.int IntKind.u8 p1] h Q = F9 p0 p1 h Q := by kernel_rfl
theorem c9 {p0 : Sl} {p1 : Int} {h : Hp} {Q : Bool → Hp → Prop} (hk : F9 p0 p1 h Q) : callP Try.prog 9 [Value.slice p0.a p0.len p0.cap, Value.int IntKind.u8 p1] (cB) h Q :=
  spec_of (prem_of prog_ok dep_ok eqs_ok rfl (by kernel_rfl)) mix_ok ((e9 p0 p1 h Q).mpr hk)
def a10 : Ann := { prom := 0, refs := [], dyn := 0, bcd := fun s => match s with | _ => none, eqs := memL eqL, cdc := cdcs, res := ress, pure := memL [97], pan := memL [122, 137] }
def n10 : An := (.seq (.reg []) (.seq (.seq (.reg []) (.cond (.seq (.reg []) .leaf) .leaf)) (.seq (.reg []) (.seq (.reg []) (.seq (.reg []) (.seq (.reg [(0, []), (2, []), (1, []), (3, [1]), (4, []), (5, []), (6, []), (7, []), (8, []), (9, []), (10, []), (11, []), (12, []), (13, []), (14, []), (15, []), (16, []), (17, []), (18, []), (19, []), (20, []), (21, []), (22, [])]) .leaf))))))
/-- consols/consolslaw3.PackPuts -/
def F10 (p0 : Sl) (h : Hp) (Q : Bool → Hp → Prop) : Prop :=
  condP (decide ((↑p0.len : Int) > (60 : Int))) (Q true h)
    (callP Try.prog (62 : Nat) [Value.slice p0.a p0.len p0.cap] cSl h fun (s1 : Sl) (h1 : Hp) =>
      callP Try.prog (63 : Nat) [Value.slice s1.a s1.len s1.cap, Value.int IntKind.i64 (↑p0.len : Int)] (tupC [cSl, cI IntKind.i64]) h1 fun (z1 : Sl × Int) (h2 : Hp) =>
        callP Try.prog (63 : Nat) [Value.slice s1.a s1.len s1.cap, Value.int IntKind.i64 (IntKind.i64.wrap ((↑p0.len : Int) + (1 : Int)))] (tupC [cSl, cI IntKind.i64]) h2 fun (z2 : Sl × Int) (h3 : Hp) =>
          strP s1.a s1.len h3 fun (u1 : ByteArray) =>
            callP Try.prog (64 : Nat) [Value.slice p0.a p0.len p0.cap] cSl h3 fun (s2 : Sl) (h4 : Hp) =>
              ((strP s1.a s1.len h4 fun (u2 : ByteArray) => u2 = u1) ∧ True) ∧
                strP s2.a s2.len h4 fun (u3 : ByteArray) =>
                  condP (strEq u1 u3)
                    (condP (z1.snd == (0 : Int))
                      (callP Try.prog (65 : Nat) [Value.slice z1.fst.a z1.fst.len z1.fst.cap, Value.slice p0.a p0.len p0.cap] cB h4 fun (t1 : Bool) (h5 : Hp) =>
                        condP t1 (condP (z2.snd == (2 : Int)) (callP Try.prog (66 : Nat) [] cB h5 fun (t2 : Bool) (h6 : Hp) => Q t2 h6) (Q false h5)) (Q false h5))
                      (Q false h4))
                    (Q false h4))
theorem e10 (p0 : Sl) (h : Hp) (Q : Bool → Hp → Prop) : fnD a10 Try.prog 10 n10 (cB) [Value.slice p0.a p0.len p0.cap] h Q = F10 p0 h Q := by kernel_rfl
theorem c10 {p0 : Sl} {h : Hp} {Q : Bool → Hp → Prop} (hk : F10 p0 h Q) : callP Try.prog 10 [Value.slice p0.a p0.len p0.cap] (cB) h Q :=
  spec_of (prem_of prog_ok dep_ok eqs_ok rfl (by kernel_rfl)) mix_ok ((e10 p0 h Q).mpr hk)
def a11 : Ann := { prom := 0, refs := [], dyn := 0, bcd := fun s => match s with | _ => none, eqs := memL eqL, cdc := cdcs, res := ress, pure := memL [97], pan := memL [122, 137] }
def n11 : An := (.seq (.reg []) (.seq (.join [(21, false, cB)] 4161536 (.reg []) (.cond (.seq (.reg []) .leaf) .leaf)) (.seq (.reg []) (.seq (.reg []) (.seq (.reg []) (.seq (.reg []) (.seq (.reg []) .leaf)))))))
/-- consols/consolslaw3.PackGets -/
def F11 (p0 : Sl) (p1 : Int) (h : Hp) (Q : Bool → Hp → Prop) : Prop :=
  joinP
    (fun (t1 : Bool) (h1 : Hp) =>
      condP t1 (Q true h1)
        (allocP (Obj.cells { toList := [] : Array Value } (5 : Nat)) h1 fun (k1 : Nat) (h2 : Hp) =>
          appendP (cI IntKind.u8) (5 : Nat) (1 : Nat) (some { block := k1, off := (0 : Nat) : Addr }) (0 : Nat) (0 : Nat) p0.a p0.len h2 fun (p1_1 : Option Addr) (k2 k3 : Nat) (h3 : Hp) =>
            callP Try.prog (63 : Nat) [Value.slice p1_1 k2 k3, Value.int IntKind.i64 p1] (tupC [cSl, cI IntKind.i64]) h3 fun (z1 : Sl × Int) (h4 : Hp) =>
              callP Try.prog (67 : Nat) [Value.slice p0.a p0.len p0.cap, Value.int IntKind.i64 p1] (tupC [cSl, cI IntKind.i64]) h4 fun (z2 : Sl × Int) (h5 : Hp) =>
                callP Try.prog (68 : Nat) [Value.slice p0.a p0.len p0.cap] (tupC [cI IntKind.i64, cI IntKind.i64, cB]) h5 fun (z3 : Int × Int × Bool) (h6 : Hp) =>
                  callP Try.prog (69 : Nat) [Value.slice p0.a p0.len p0.cap] (tupC [cI IntKind.i64, cI IntKind.i64, cB]) h6 fun (z4 : Int × Int × Bool) (h7 : Hp) =>
                    callP Try.prog (65 : Nat) [Value.slice z1.fst.a z1.fst.len z1.fst.cap, Value.slice z2.fst.a z2.fst.len z2.fst.cap] cB h7 fun (t2 : Bool) (h8 : Hp) =>
                      condP t2
                        (condP (z1.snd == z2.snd)
                          (condP (z3.fst == z4.fst) (condP (z3.snd.fst == z4.snd.fst) (condP (z3.snd.snd == z4.snd.snd) (callP Try.prog (66 : Nat) [] cB h8 fun (t3 : Bool) (h9 : Hp) => Q t3 h9) (Q false h8)) (Q false h8)) (Q false h8))
                          (Q false h8))
                        (Q false h8)))
    fun (J1 : Bool → Hp → Prop) => condP (decide ((↑p0.len : Int) > (200 : Int))) (J1 true h) (J1 (decide (p1 > (300 : Int))) h)
theorem e11 (p0 : Sl) (p1 : Int) (h : Hp) (Q : Bool → Hp → Prop) : fnD a11 Try.prog 11 n11 (cB) [Value.slice p0.a p0.len p0.cap, Value.int IntKind.i64 p1] h Q = F11 p0 p1 h Q := by kernel_rfl
theorem c11 {p0 : Sl} {p1 : Int} {h : Hp} {Q : Bool → Hp → Prop} (hk : F11 p0 p1 h Q) : callP Try.prog 11 [Value.slice p0.a p0.len p0.cap, Value.int IntKind.i64 p1] (cB) h Q :=
  spec_of (prem_of prog_ok dep_ok eqs_ok rfl (by kernel_rfl)) mix_ok ((e11 p0 p1 h Q).mpr hk)
def a12 : Ann := { prom := 0, refs := [], dyn := 0, bcd := fun s => match s with | _ => none, eqs := memL eqL, cdc := cdcs, res := ress, pure := memL [97], pan := memL [122, 137] }
def n12 : An := (.seq (.reg []) (.seq (.reg []) (.seq (.reg []) (.seq (.reg []) (.seq (.reg []) (.seq (.reg []) (.seq (.reg []) .leaf)))))))
/-- consols/consolslaw3.PackCut -/
def F12 (p0 : Int) (h : Hp) (Q : Bool → Hp → Prop) : Prop :=
  allocP (Obj.cells { toList := [Value.int IntKind.i64 p0] : Array Value } (2 : Nat)) h fun (k1 : Nat) (h1 : Hp) =>
    callP Try.prog (64 : Nat) [Value.slice (some { block := k1, off := (0 : Nat) : Addr }) (1 : Nat) (1 : Nat)] cSl h1 fun (s1 : Sl) (h2 : Hp) =>
      cutP s1.len s1.cap none (some (IntKind.i64.wrap ((↑s1.len : Int) - (1 : Int)))) fun (k2 k3 : Nat) =>
        callP Try.prog (68 : Nat) [Value.slice (cutA s1.a k2 s1.cap (1 : Nat)) (k3 - k2) (s1.cap - k2)] (tupC [cI IntKind.i64, cI IntKind.i64, cB]) h2 fun (z1 : Int × Int × Bool) (h3 : Hp) =>
          allocP (Obj.cells { toList := [] : Array Value } (5 : Nat)) h3 fun (k4 : Nat) (h4 : Hp) =>
            appendP (cI IntKind.u8) (5 : Nat) (1 : Nat) (some { block := k4, off := (0 : Nat) : Addr }) (0 : Nat) (0 : Nat) s1.a s1.len h4 fun (p1 : Option Addr) (k5 k6 : Nat) (h5 : Hp) =>
              idxP p1 k5 (IntKind.i64.wrap ((↑k5 : Int) - (1 : Int))) fun (a1 : Addr) =>
                loadP (cI IntKind.u8) (a1.add ((IntKind.i64.wrap ((↑k5 : Int) - (1 : Int))).toNat * (1 : Nat))) h5 fun (n1 : Int) =>
                  idxP p1 k5 (IntKind.i64.wrap ((↑k5 : Int) - (1 : Int))) fun (a2 : Addr) =>
                    storeP (cI IntKind.u8) (a2.add ((IntKind.i64.wrap ((↑k5 : Int) - (1 : Int))).toNat * (1 : Nat))) (orI IntKind.u8 n1 (128 : Int)) h5 fun (h6 : Hp) =>
                      allocP (Obj.cells { toList := [Value.int IntKind.u8 (0 : Int)] : Array Value } (5 : Nat)) h6 fun (k7 : Nat) (h7 : Hp) =>
                        appendP (cI IntKind.u8) (5 : Nat) (1 : Nat) p1 k5 k6 (some { block := k7, off := (0 : Nat) : Addr }) (1 : Nat) h7 fun (p2 : Option Addr) (k8 k9 : Nat) (h8 : Hp) =>
                          callP Try.prog (68 : Nat) [Value.slice p2 k8 k9] (tupC [cI IntKind.i64, cI IntKind.i64, cB]) h8 fun (z2 : Int × Int × Bool) (h9 : Hp) =>
                            condP (!z1.snd.snd) (condP (!z2.snd.snd) (callP Try.prog (66 : Nat) [] cB h9 fun (t1 : Bool) (h10 : Hp) => Q t1 h10) (Q false h9)) (Q false h9)
theorem e12 (p0 : Int) (h : Hp) (Q : Bool → Hp → Prop) : fnD a12 Try.prog 12 n12 (cB) [Value.int IntKind.i64 p0] h Q = F12 p0 h Q := by kernel_rfl
theorem c12 {p0 : Int} {h : Hp} {Q : Bool → Hp → Prop} (hk : F12 p0 h Q) : callP Try.prog 12 [Value.int IntKind.i64 p0] (cB) h Q :=
  spec_of (prem_of prog_ok dep_ok eqs_ok rfl (by kernel_rfl)) mix_ok ((e12 p0 h Q).mpr hk)
def a13 : Ann := { prom := 0, refs := [], dyn := 0, bcd := fun s => match s with | _ => none, eqs := memL eqL, cdc := cdcs, res := ress, pure := memL [97], pan := memL [122, 137] }
def n13 : An := (.seq (.reg []) (.seq (.join [(15, false, cB)] 65280 (.reg []) (.cond (.seq (.reg []) .leaf) .leaf)) (.seq (.reg []) (.seq (.reg []) (.seq (.reg [(0, []), (1, []), (2, []), (3, []), (5, []), (7, []), (4, []), (6, []), (8, []), (9, []), (10, []), (11, []), (12, []), (14, []), (13, []), (15, [13]), (16, []), (17, []), (18, []), (19, []), (20, []), (21, []), (22, [])]) .leaf)))))
/-- consols/consolslaw3.PackJoin -/
def F13 (p0 : Sl) (p1 : Sl) (h : Hp) (Q : Bool → Hp → Prop) : Prop :=
  joinP
    (fun (t1 : Bool) (h1 : Hp) =>
      condP t1 (Q true h1)
        (callP Try.prog (62 : Nat) [Value.slice p0.a p0.len p0.cap] cSl h1 fun (s1 : Sl) (h2 : Hp) =>
          callP Try.prog (62 : Nat) [Value.slice p1.a p1.len p1.cap] cSl h2 fun (s2 : Sl) (h3 : Hp) =>
            appendP (cI IntKind.u8) (5 : Nat) (1 : Nat) s1.a s1.len s1.cap s2.a s2.len h3 fun (p1_1 : Option Addr) (k1 k2 : Nat) (h4 : Hp) =>
              callP Try.prog (63 : Nat) [Value.slice p1_1 k1 k2, Value.int IntKind.i64 (IntKind.i64.wrap ((↑p0.len : Int) + (↑p1.len : Int)))] (tupC [cSl, cI IntKind.i64]) h4 fun (z1 : Sl × Int) (h5 : Hp) =>
                condP (z1.snd == (0 : Int))
                  (allocP (Obj.cells { toList := [] : Array Value } (2 : Nat)) h5 fun (k3 : Nat) (h6 : Hp) =>
                    appendP (cI IntKind.i64) (2 : Nat) (8 : Nat) (some { block := k3, off := (0 : Nat) : Addr }) (0 : Nat) (0 : Nat) p0.a p0.len h6 fun (p2 : Option Addr) (k4 k5 : Nat) (h7 : Hp) =>
                      appendP (cI IntKind.i64) (2 : Nat) (8 : Nat) p2 k4 k5 p1.a p1.len h7 fun (p3 : Option Addr) (k6 k7 : Nat) (h8 : Hp) =>
                        callP Try.prog (65 : Nat) [Value.slice z1.fst.a z1.fst.len z1.fst.cap, Value.slice p3 k6 k7] cB h8 fun (t2 : Bool) (h9 : Hp) =>
                          condP t2
                            (strP p1_1 k1 h9 fun (u1 : ByteArray) =>
                              callP Try.prog (62 : Nat) [Value.slice z1.fst.a z1.fst.len z1.fst.cap] cSl h9 fun (s3 : Sl) (h10 : Hp) =>
                                ((strP p1_1 k1 h10 fun (u2 : ByteArray) => u2 = u1) ∧ True) ∧
                                  strP s3.a s3.len h10 fun (u3 : ByteArray) => condP (strEq u1 u3) (callP Try.prog (66 : Nat) [] cB h10 fun (t3 : Bool) (h11 : Hp) => Q t3 h11) (Q false h10))
                            ((True ∧ True) ∧ Q false h9))
                  ((True ∧ True) ∧ Q false h5)))
    fun (J1 : Bool → Hp → Prop) => condP (decide ((↑p0.len : Int) > (30 : Int))) (J1 true h) (J1 (decide ((↑p1.len : Int) > (30 : Int))) h)
theorem e13 (p0 : Sl) (p1 : Sl) (h : Hp) (Q : Bool → Hp → Prop) : fnD a13 Try.prog 13 n13 (cB) [Value.slice p0.a p0.len p0.cap, Value.slice p1.a p1.len p1.cap] h Q = F13 p0 p1 h Q := by kernel_rfl
theorem c13 {p0 : Sl} {p1 : Sl} {h : Hp} {Q : Bool → Hp → Prop} (hk : F13 p0 p1 h Q) : callP Try.prog 13 [Value.slice p0.a p0.len p0.cap, Value.slice p1.a p1.len p1.cap] (cB) h Q :=
  spec_of (prem_of prog_ok dep_ok eqs_ok rfl (by kernel_rfl)) mix_ok ((e13 p0 p1 h Q).mpr hk)
def a14 : Ann := { prom := 0, refs := [], dyn := 0, bcd := fun s => match s with | _ => none, eqs := memL eqL, cdc := cdcs, res := ress, pure := memL [97], pan := memL [122, 137] }
def n14 : An := (.seq (.reg []) (.seq (.reg []) (.seq (.reg []) (.seq (.join [(17, false, cB)] 261120 (.reg []) (.cond (.seq (.reg []) .leaf) .leaf)) (.seq (.reg []) (.seq (.reg [(0, []), (1, []), (2, []), (7, []), (8, []), (9, []), (3, []), (10, []), (4, []), (5, [10]), (6, []), (11, []), (12, []), (13, []), (14, []), (15, []), (16, []), (17, []), (18, []), (19, []), (20, []), (21, []), (22, []), (23, []), (24, []), (25, []), (26, []), (27, []), (28, []), (29, []), (30, []), (31, []), (32, []), (33, []), (34, []), (35, [])]) .leaf))))))
/-- consols/consolslaw3.PackKnown -/
def F14 (p0 : Int) (h : Hp) (Q : Bool → Hp → Prop) : Prop :=
  allocP
    (Obj.cells
      {
        toList :=
          [Value.int IntKind.i64 (0 : Int), Value.int IntKind.i64 (-1 : Int), Value.int IntKind.i64 (1 : Int), Value.int IntKind.i64 (63 : Int), Value.int IntKind.i64 (-64 : Int), Value.int IntKind.i64 (64 : Int),
            Value.int IntKind.i64 (-65 : Int), Value.int IntKind.i64 (9223372036854775807 : Int), Value.int IntKind.i64 (-9223372036854775808 : Int)] :
        Array Value }
      (2 : Nat))
    h fun (k1 : Nat) (h1 : Hp) =>
    allocP
      (Obj.cells
        {
          toList :=
            [Value.string { data := #[(0 : UInt8)] : ByteArray }, Value.string { data := #[(1 : UInt8)] : ByteArray }, Value.string { data := #[(2 : UInt8)] : ByteArray }, Value.string { data := #[(126 : UInt8)] : ByteArray },
              Value.string { data := #[(127 : UInt8)] : ByteArray }, Value.string { data := #[(128 : UInt8), (1 : UInt8)] : ByteArray }, Value.string { data := #[(129 : UInt8), (1 : UInt8)] : ByteArray },
              Value.string { data := #[(254 : UInt8), (255 : UInt8), (255 : UInt8), (255 : UInt8), (255 : UInt8), (255 : UInt8), (255 : UInt8), (255 : UInt8), (255 : UInt8), (1 : UInt8)] : ByteArray },
              Value.string { data := #[(255 : UInt8), (255 : UInt8), (255 : UInt8), (255 : UInt8), (255 : UInt8), (255 : UInt8), (255 : UInt8), (255 : UInt8), (255 : UInt8), (1 : UInt8)] : ByteArray }] :
          Array Value }
        (9 : Nat))
      h1 fun (k2 : Nat) (h2 : Hp) =>
      joinP
        (fun (t1 : Bool) (h3 : Hp) =>
          condP t1 (Q true h3)
            (idxP (some { block := k2, off := (0 : Nat) : Addr }) (9 : Nat) p0 fun (a1 : Addr) =>
              loadP cS (a1.add (p0.toNat * (1 : Nat))) h3 fun (u1 : ByteArray) =>
                toBytesP (5 : Nat) u1 h3 fun (k3 k4 : Nat) (h4 : Hp) =>
                  callP Try.prog (68 : Nat) [Value.slice (some { block := k3, off := (0 : Nat) : Addr }) u1.size k4] (tupC [cI IntKind.i64, cI IntKind.i64, cB]) h4 fun (z1 : Int × Int × Bool) (h5 : Hp) =>
                    idxP (some { block := k1, off := (0 : Nat) : Addr }) (9 : Nat) p0 fun (a2 : Addr) =>
                      idxP (some { block := k2, off := (0 : Nat) : Addr }) (9 : Nat) p0 fun (a3 : Addr) =>
                        loadP (cI IntKind.i64) (a2.add (p0.toNat * (1 : Nat))) h5 fun (n1 : Int) =>
                          loadP cS (a3.add (p0.toNat * (1 : Nat))) h5 fun (u2 : ByteArray) =>
                            allocP (Obj.cells { toList := [Value.int IntKind.i64 n1] : Array Value } (2 : Nat)) h5 fun (k5 : Nat) (h6 : Hp) =>
                              callP Try.prog (62 : Nat) [Value.slice (some { block := k5, off := (0 : Nat) : Addr }) (1 : Nat) (1 : Nat)] cSl h6 fun (s1 : Sl) (h7 : Hp) =>
                                (h7.rds (a3.add (p0.toNat * (1 : Nat))) [Value.string u2] ∧ True) ∧
                                  strP s1.a s1.len h7 fun (u3 : ByteArray) =>
                                    condP (strEq u3 u2)
                                      (condP z1.snd.snd
                                        (idxP (some { block := k1, off := (0 : Nat) : Addr }) (9 : Nat) p0 fun (a4 : Addr) =>
                                          loadP (cI IntKind.i64) (a4.add (p0.toNat * (1 : Nat))) h7 fun (n2 : Int) =>
                                            condP (z1.fst == n2)
                                              (idxP (some { block := k2, off := (0 : Nat) : Addr }) (9 : Nat) p0 fun (a5 : Addr) =>
                                                loadP cS (a5.add (p0.toNat * (1 : Nat))) h7 fun (u4 : ByteArray) =>
                                                  condP (z1.snd.fst == (↑u4.size : Int)) (callP Try.prog (66 : Nat) [] cB h7 fun (t2 : Bool) (h8 : Hp) => Q t2 h8) (Q false h7))
                                              (Q false h7))
                                        (Q false h7))
                                      (Q false h7)))
        fun (J1 : Bool → Hp → Prop) => condP (decide (p0 < (0 : Int))) (J1 true h2) (J1 (decide (p0 ≥ (9 : Int))) h2)
theorem e14 (p0 : Int) (h : Hp) (Q : Bool → Hp → Prop) : fnD a14 Try.prog 14 n14 (cB) [Value.int IntKind.i64 p0] h Q = F14 p0 h Q := by kernel_rfl
theorem c14 {p0 : Int} {h : Hp} {Q : Bool → Hp → Prop} (hk : F14 p0 h Q) : callP Try.prog 14 [Value.int IntKind.i64 p0] (cB) h Q :=
  spec_of (prem_of prog_ok dep_ok eqs_ok rfl (by kernel_rfl)) mix_ok ((e14 p0 h Q).mpr hk)
def a15 : Ann := { prom := 0, refs := [], dyn := 0, bcd := fun s => match s with | _ => none, eqs := memL eqL, cdc := cdcs, res := ress, pure := memL [97], pan := memL [122, 137] }
def n15 : An := (.seq (.reg []) (.seq (.reg []) (.seq (.join [(19, false, cB)] 1044480 (.reg []) (.cond (.seq (.reg []) .leaf) .leaf)) (.seq (.reg []) (.seq (.reg []) (.seq (.reg []) (.seq (.reg []) .leaf)))))))
/-- consols/consolslaw3.PackOdd -/
def F15 (p0 : Int) (h : Hp) (Q : Bool → Hp → Prop) : Prop :=
  allocP
    (Obj.cells
      {
        toList :=
          [Value.string { data := #[] : ByteArray }, Value.string { data := #[(128 : UInt8)] : ByteArray }, Value.string { data := #[(128 : UInt8), (0 : UInt8)] : ByteArray },
            Value.string { data := #[(255 : UInt8), (255 : UInt8), (255 : UInt8), (255 : UInt8), (255 : UInt8), (255 : UInt8), (255 : UInt8), (255 : UInt8), (255 : UInt8), (2 : UInt8)] : ByteArray },
            Value.string { data := #[(255 : UInt8), (255 : UInt8), (255 : UInt8), (255 : UInt8), (255 : UInt8), (255 : UInt8), (255 : UInt8), (255 : UInt8), (255 : UInt8), (129 : UInt8), (0 : UInt8)] : ByteArray },
            Value.string { data := #[(129 : UInt8), (128 : UInt8), (0 : UInt8)] : ByteArray }] :
        Array Value }
      (9 : Nat))
    h fun (k1 : Nat) (h1 : Hp) =>
    joinP
      (fun (t1 : Bool) (h2 : Hp) =>
        condP t1 (Q true h2)
          (idxP (some { block := k1, off := (0 : Nat) : Addr }) (6 : Nat) p0 fun (a1 : Addr) =>
            loadP cS (a1.add (p0.toNat * (1 : Nat))) h2 fun (u1 : ByteArray) =>
              toBytesP (5 : Nat) u1 h2 fun (k2 k3 : Nat) (h3 : Hp) =>
                callP Try.prog (68 : Nat) [Value.slice (some { block := k2, off := (0 : Nat) : Addr }) u1.size k3] (tupC [cI IntKind.i64, cI IntKind.i64, cB]) h3 fun (z1 : Int × Int × Bool) (h4 : Hp) =>
                  idxP (some { block := k1, off := (0 : Nat) : Addr }) (6 : Nat) p0 fun (a2 : Addr) =>
                    loadP cS (a2.add (p0.toNat * (1 : Nat))) h4 fun (u2 : ByteArray) =>
                      toBytesP (5 : Nat) u2 h4 fun (k4 k5 : Nat) (h5 : Hp) =>
                        callP Try.prog (63 : Nat) [Value.slice (some { block := k4, off := (0 : Nat) : Addr }) u2.size k5, Value.int IntKind.i64 (1 : Int)] (tupC [cSl, cI IntKind.i64]) h5 fun (z2 : Sl × Int) (h6 : Hp) =>
                          allocP (Obj.cells { toList := [Value.int IntKind.u8 (2 : Int)] : Array Value } (5 : Nat)) h6 fun (k6 : Nat) (h7 : Hp) =>
                            markP { block := k6, off := (0 : Nat) : Addr } h7 fun (h8 : Hp) =>
                              callP Try.prog (63 : Nat) [Value.slice (some { block := k6, off := (0 : Nat) : Addr }) (1 : Nat) (1 : Nat), Value.int IntKind.i64 (-1 : Int)] (tupC [cSl, cI IntKind.i64]) h8 fun (z3 : Sl × Int) (h9 : Hp) =>
                                condP (!z1.snd.snd)
                                  (condP (z1.fst == (0 : Int))
                                    (condP (z1.snd.fst == (0 : Int))
                                      (condP (z2.snd == (2 : Int))
                                        (condP (z3.snd == (2 : Int))
                                          (condP (IntKind.i64.wrap ((↑z2.fst.len : Int) + (↑z3.fst.len : Int)) == (0 : Int)) (callP Try.prog (66 : Nat) [] cB h9 fun (t2 : Bool) (h10 : Hp) => Q t2 h10) (Q false h9)) (Q false h9))
                                        (Q false h9))
                                      (Q false h9))
                                    (Q false h9))
                                  (Q false h9)))
      fun (J1 : Bool → Hp → Prop) => condP (decide (p0 < (0 : Int))) (J1 true h1) (J1 (decide (p0 ≥ (6 : Int))) h1)
theorem e15 (p0 : Int) (h : Hp) (Q : Bool → Hp → Prop) : fnD a15 Try.prog 15 n15 (cB) [Value.int IntKind.i64 p0] h Q = F15 p0 h Q := by kernel_rfl
theorem c15 {p0 : Int} {h : Hp} {Q : Bool → Hp → Prop} (hk : F15 p0 h Q) : callP Try.prog 15 [Value.int IntKind.i64 p0] (cB) h Q :=
  spec_of (prem_of prog_ok dep_ok eqs_ok rfl (by kernel_rfl)) mix_ok ((e15 p0 h Q).mpr hk)
def a16 : Ann := { prom := 0, refs := [], dyn := 0, bcd := fun s => match s with | _ => none, eqs := memL eqL, cdc := cdcs, res := ress, pure := memL [97], pan := memL [122, 137] }
def n16 : An := (.seq (.reg []) (.seq (.seq (.reg []) (.cond (.seq (.reg []) .leaf) .leaf)) (.seq (.reg []) (.seq (.reg []) (.seq (.reg []) (.seq (.reg []) (.seq (.seq (.reg []) (.block (.loop [(8, false, cI .i64)] 2198486384896 (.seq (.seq (.reg []) (.cond .leaf .leaf)) (.seq (.block (.reg [])) (.reg [])))))) (.seq (.reg []) (.seq (.reg []) .leaf)))))))))
/-- consols/consolslaw3.PackOwn -/
def F16 (p0 : Sl) (h : Hp) (Q : Bool → Hp → Prop) : Prop :=
  condP (decide ((↑p0.len : Int) > (40 : Int))) (Q true h)
    (allocP (Obj.cells { toList := [] : Array Value } (2 : Nat)) h fun (k1 : Nat) (h1 : Hp) =>
      appendP (cI IntKind.i64) (2 : Nat) (8 : Nat) (some { block := k1, off := (0 : Nat) : Addr }) (0 : Nat) (0 : Nat) p0.a p0.len h1 fun (p1 : Option Addr) (k2 k3 : Nat) (h2 : Hp) =>
        callP Try.prog (62 : Nat) [Value.slice p1 k2 k3] cSl h2 fun (s1 : Sl) (h3 : Hp) =>
          allocP (Obj.cells { toList := [] : Array Value } (5 : Nat)) h3 fun (k4 : Nat) (h4 : Hp) =>
            appendP (cI IntKind.u8) (5 : Nat) (1 : Nat) (some { block := k4, off := (0 : Nat) : Addr }) (0 : Nat) (0 : Nat) s1.a s1.len h4 fun (p2 : Option Addr) (k5 k6 : Nat) (h5 : Hp) =>
              callP Try.prog (63 : Nat) [Value.slice s1.a s1.len s1.cap, Value.int IntKind.i64 (↑p0.len : Int)] (tupC [cSl, cI IntKind.i64]) h5 fun (z1 : Sl × Int) (h6 : Hp) =>
                loopP (0 : Int) h6 fun (J1 : Int → Hp → Prop) (n1 : Int) (h7 : Hp) =>
                  condP (decide (n1 < (↑z1.fst.len : Int)))
                    (idxP z1.fst.a z1.fst.len n1 fun (a1 : Addr) =>
                      loadP (cI IntKind.i64) (a1.add (n1.toNat * (1 : Nat))) h7 fun (n2 : Int) =>
                        idxP z1.fst.a z1.fst.len n1 fun (a2 : Addr) => storeP (cI IntKind.i64) (a2.add (n1.toNat * (1 : Nat))) (IntKind.i64.wrap (n2 + (1 : Int))) h7 fun (h8 : Hp) => J1 (IntKind.i64.wrap (n1 + (1 : Int))) h8)
                    (callP Try.prog (63 : Nat) [Value.slice s1.a s1.len s1.cap, Value.int IntKind.i64 (↑p0.len : Int)] (tupC [cSl, cI IntKind.i64]) h7 fun (z2 : Sl × Int) (h9 : Hp) =>
                      callP Try.prog (65 : Nat) [Value.slice p1 k2 k3, Value.slice p0.a p0.len p0.cap] cB h9 fun (t1 : Bool) (h10 : Hp) =>
                        condP t1
                          (strP s1.a s1.len h10 fun (u1 : ByteArray) =>
                            strP p2 k5 h10 fun (u2 : ByteArray) =>
                              condP (strEq u1 u2)
                                (condP (z1.snd == (0 : Int))
                                  (condP (z2.snd == (0 : Int))
                                    (callP Try.prog (65 : Nat) [Value.slice z2.fst.a z2.fst.len z2.fst.cap, Value.slice p0.a p0.len p0.cap] cB h10 fun (t2 : Bool) (h11 : Hp) =>
                                      condP t2 (callP Try.prog (66 : Nat) [] cB h11 fun (t3 : Bool) (h12 : Hp) => Q t3 h12) (Q false h11))
                                    (Q false h10))
                                  (Q false h10))
                                (Q false h10))
                          (Q false h10)))
theorem e16 (p0 : Sl) (h : Hp) (Q : Bool → Hp → Prop) : fnD a16 Try.prog 16 n16 (cB) [Value.slice p0.a p0.len p0.cap] h Q = F16 p0 h Q := by kernel_rfl
theorem c16 {p0 : Sl} {h : Hp} {Q : Bool → Hp → Prop} (hk : F16 p0 h Q) : callP Try.prog 16 [Value.slice p0.a p0.len p0.cap] (cB) h Q :=
  spec_of (prem_of prog_ok dep_ok eqs_ok rfl (by kernel_rfl)) mix_ok ((e16 p0 h Q).mpr hk)
def a17 : Ann := { prom := 0, refs := [], dyn := 0, bcd := fun s => match s with | _ => none, eqs := memL eqL, cdc := cdcs, res := ress, pure := memL [97], pan := memL [122, 137] }
def n17 : An := (.seq (.reg []) (.seq (.join [(19, false, cB)] 1044480 (.reg []) (.cond (.seq (.reg []) .leaf) .leaf)) (.seq (.reg []) (.seq (.reg []) (.seq (.join [(39, false, cB)] 1098437885952 (.reg []) (.cond (.seq (.reg []) .leaf) .leaf)) (.seq (.seq (.reg []) (.cond (.seq (.reg []) .leaf) .leaf)) (.seq (.reg []) (.seq (.reg []) .leaf))))))))
/-- consols/consolslaw6.FramePuts -/
def F17 (p0 : Sl) (p1 : Sl) (h : Hp) (Q : Bool → Hp → Prop) : Prop :=
  joinP
    (fun (t1 : Bool) (h1 : Hp) =>
      condP t1 (Q true h1)
        (callP Try.prog (70 : Nat) [Value.slice p0.a p0.len p0.cap] (tupC [cSl, cB]) h1 fun (z1 : Sl × Bool) (h2 : Hp) =>
          callP Try.prog (71 : Nat) [Value.slice p0.a p0.len p0.cap] (tupC [cSl, cB]) h2 fun (z2 : Sl × Bool) (h3 : Hp) =>
            joinP
              (fun (t2 : Bool) (h4 : Hp) =>
                condP t2 (Q false h4)
                  (condP (!z1.snd) (condP (decide ((↑p0.len : Int) > (80 : Int))) (callP Try.prog (72 : Nat) [] cB h4 fun (t3 : Bool) (h5 : Hp) => Q t3 h5) (Q false h4))
                    (allocP (Obj.cells { toList := [] : Array Value } (5 : Nat)) h4 fun (k1 : Nat) (h6 : Hp) =>
                      appendP (cI IntKind.u8) (5 : Nat) (1 : Nat) (some { block := k1, off := (0 : Nat) : Addr }) (0 : Nat) (0 : Nat) z1.fst.a z1.fst.len h6 fun (p1_1 : Option Addr) (k2 k3 : Nat) (h7 : Hp) =>
                        appendP (cI IntKind.u8) (5 : Nat) (1 : Nat) p1_1 k2 k3 p1.a p1.len h7 fun (p2 : Option Addr) (k4 k5 : Nat) (h8 : Hp) =>
                          callP Try.prog (73 : Nat) [Value.slice p2 k4 k5] (tupC [cSl, cI IntKind.i64, cB]) h8 fun (z3 : Sl × Int × Bool) (h9 : Hp) =>
                            condP z3.snd.snd
                              (strP z3.fst.a z3.fst.len h9 fun (u1 : ByteArray) =>
                                strP p0.a p0.len h9 fun (u2 : ByteArray) =>
                                  condP (strEq u1 u2) (condP (z3.snd.fst == (↑z1.fst.len : Int)) (callP Try.prog (72 : Nat) [] cB h9 fun (t4 : Bool) (h10 : Hp) => Q t4 h10) (Q false h9)) (Q false h9))
                              (Q false h9))))
              fun (J1 : Bool → Hp → Prop) => strP z1.fst.a z1.fst.len h3 fun (u3 : ByteArray) => strP z2.fst.a z2.fst.len h3 fun (u4 : ByteArray) => condP (!strEq u3 u4) (J1 true h3) (J1 (!z1.snd == z2.snd) h3)))
    fun (J2 : Bool → Hp → Prop) => condP (decide ((↑p0.len : Int) > (200 : Int))) (J2 true h) (J2 (decide ((↑p1.len : Int) > (100 : Int))) h)
theorem e17 (p0 : Sl) (p1 : Sl) (h : Hp) (Q : Bool → Hp → Prop) : fnD a17 Try.prog 17 n17 (cB) [Value.slice p0.a p0.len p0.cap, Value.slice p1.a p1.len p1.cap] h Q = F17 p0 p1 h Q := by kernel_rfl
theorem c17 {p0 : Sl} {p1 : Sl} {h : Hp} {Q : Bool → Hp → Prop} (hk : F17 p0 p1 h Q) : callP Try.prog 17 [Value.slice p0.a p0.len p0.cap, Value.slice p1.a p1.len p1.cap] (cB) h Q :=
  spec_of (prem_of prog_ok dep_ok eqs_ok rfl (by kernel_rfl)) mix_ok ((e17 p0 p1 h Q).mpr hk)
def a18 : Ann := { prom := 0, refs := [], dyn := 0, bcd := fun s => match s with | _ => none, eqs := memL eqL, cdc := cdcs, res := ress, pure := memL [97], pan := memL [122, 137] }
def n18 : An := (.seq (.reg []) (.seq (.seq (.reg []) (.cond (.seq (.reg []) .leaf) .leaf)) (.seq (.reg []) (.seq (.reg []) (.seq (.reg []) .leaf)))))
/-- consols/consolslaw6.FrameGets -/
def F18 (p0 : Sl) (h : Hp) (Q : Bool → Hp → Prop) : Prop :=
  condP (decide ((↑p0.len : Int) > (300 : Int))) (Q true h)
    (callP Try.prog (73 : Nat) [Value.slice p0.a p0.len p0.cap] (tupC [cSl, cI IntKind.i64, cB]) h fun (z1 : Sl × Int × Bool) (h1 : Hp) =>
      callP Try.prog (74 : Nat) [Value.slice p0.a p0.len p0.cap] (tupC [cSl, cI IntKind.i64, cB]) h1 fun (z2 : Sl × Int × Bool) (h2 : Hp) =>
        strP z1.fst.a z1.fst.len h2 fun (u1 : ByteArray) =>
          strP z2.fst.a z2.fst.len h2 fun (u2 : ByteArray) =>
            condP (strEq u1 u2) (condP (z1.snd.fst == z2.snd.fst) (condP (z1.snd.snd == z2.snd.snd) (callP Try.prog (72 : Nat) [] cB h2 fun (t1 : Bool) (h3 : Hp) => Q t1 h3) (Q false h2)) (Q false h2)) (Q false h2))
theorem e18 (p0 : Sl) (h : Hp) (Q : Bool → Hp → Prop) : fnD a18 Try.prog 18 n18 (cB) [Value.slice p0.a p0.len p0.cap] h Q = F18 p0 h Q := by kernel_rfl
theorem c18 {p0 : Sl} {h : Hp} {Q : Bool → Hp → Prop} (hk : F18 p0 h Q) : callP Try.prog 18 [Value.slice p0.a p0.len p0.cap] (cB) h Q :=
  spec_of (prem_of prog_ok dep_ok eqs_ok rfl (by kernel_rfl)) mix_ok ((e18 p0 h Q).mpr hk)
def a19 : Ann := { prom := 0, refs := [], dyn := 0, bcd := fun s => match s with | _ => none, eqs := memL eqL, cdc := cdcs, res := ress, pure := memL [97], pan := memL [122, 137] }
def n19 : An := (.seq (.reg []) (.seq (.reg []) (.seq (.join [(39, false, cB)] 1099494850560 (.reg []) (.cond (.seq (.reg []) .leaf) .leaf)) (.seq (.reg []) (.seq (.reg []) (.seq (.reg []) (.seq (.reg []) (.seq (.reg []) (.seq (.reg []) .leaf)))))))))
/-- consols/consolslaw6.FrameTurned -/
def F19 (p0 : Sl) (p1 : Int) (p2 : Int) (p3 : Int) (h : Hp) (Q : Bool → Hp → Prop) : Prop :=
  callP Try.prog (71 : Nat) [Value.slice p0.a p0.len p0.cap] (tupC [cSl, cB]) h fun (z1 : Sl × Bool) (h1 : Hp) =>
    joinP
      (fun (t1 : Bool) (h2 : Hp) =>
        condP t1 (Q true h2)
          ((↑z1.fst.len : Int) ≠ (0 : Int) ∧
            allocP (Obj.cells { toList := [] : Array Value } (5 : Nat)) h2 fun (k1 : Nat) (h3 : Hp) =>
              appendP (cI IntKind.u8) (5 : Nat) (1 : Nat) (some { block := k1, off := (0 : Nat) : Addr }) (0 : Nat) (0 : Nat) z1.fst.a z1.fst.len h3 fun (p1_1 : Option Addr) (k2 k3 : Nat) (h4 : Hp) =>
                idxP p1_1 k2 ((andI IntKind.i64 p1 (65535 : Int)).tmod (↑z1.fst.len : Int)) fun (a1 : Addr) =>
                  loadP (cI IntKind.u8) (a1.add (((andI IntKind.i64 p1 (65535 : Int)).tmod (↑z1.fst.len : Int)).toNat * (1 : Nat))) h4 fun (n1 : Int) =>
                    idxP p1_1 k2 ((andI IntKind.i64 p1 (65535 : Int)).tmod (↑z1.fst.len : Int)) fun (a2 : Addr) =>
                      storeP (cI IntKind.u8) (a2.add (((andI IntKind.i64 p1 (65535 : Int)).tmod (↑z1.fst.len : Int)).toNat * (1 : Nat))) (xorI IntKind.u8 n1 p2) h4 fun (h5 : Hp) =>
                        callP Try.prog (73 : Nat) [Value.slice p1_1 k2 k3] (tupC [cSl, cI IntKind.i64, cB]) h5 fun (z2 : Sl × Int × Bool) (h6 : Hp) =>
                          cutP z1.fst.len z1.fst.cap none (some p3) fun (k4 k5 : Nat) =>
                            callP Try.prog (73 : Nat) [Value.slice (cutA z1.fst.a k4 z1.fst.cap (1 : Nat)) (k5 - k4) (z1.fst.cap - k4)] (tupC [cSl, cI IntKind.i64, cB]) h6 fun (z3 : Sl × Int × Bool) (h7 : Hp) =>
                              condP ((andI IntKind.i64 p1 (65535 : Int)).tmod (↑z1.fst.len : Int) == (1 : Int)) (condP (!z3.snd.snd) (callP Try.prog (72 : Nat) [] cB h7 fun (t2 : Bool) (h8 : Hp) => Q t2 h8) (Q false h7))
                                (condP (!z2.snd.snd) (condP (!z3.snd.snd) (callP Try.prog (72 : Nat) [] cB h7 fun (t3 : Bool) (h9 : Hp) => Q t3 h9) (Q false h7)) (Q false h7))))
      fun (J1 : Bool → Hp → Prop) => condP (!z1.snd) (J1 true h1) (condP (p2 == (0 : Int)) (J1 true h1) (condP (decide (p3 < (0 : Int))) (J1 true h1) (J1 (decide (p3 ≥ (↑z1.fst.len : Int))) h1)))
theorem e19 (p0 : Sl) (p1 : Int) (p2 : Int) (p3 : Int) (h : Hp) (Q : Bool → Hp → Prop) : fnD a19 Try.prog 19 n19 (cB) [Value.slice p0.a p0.len p0.cap, Value.int IntKind.i64 p1, Value.int IntKind.u8 p2, Value.int IntKind.i64 p3] h Q = F19 p0 p1 p2 p3 h Q := by kernel_rfl
theorem c19 {p0 : Sl} {p1 : Int} {p2 : Int} {p3 : Int} {h : Hp} {Q : Bool → Hp → Prop} (hk : F19 p0 p1 p2 p3 h Q) : callP Try.prog 19 [Value.slice p0.a p0.len p0.cap, Value.int IntKind.i64 p1, Value.int IntKind.u8 p2, Value.int IntKind.i64 p3] (cB) h Q :=
  spec_of (prem_of prog_ok dep_ok eqs_ok rfl (by kernel_rfl)) mix_ok ((e19 p0 p1 p2 p3 h Q).mpr hk)
def a20 : Ann := { prom := 0, refs := [], dyn := 0, bcd := fun s => match s with | _ => none, eqs := memL eqL, cdc := cdcs, res := ress, pure := memL [97], pan := memL [122, 137] }
def n20 : An := (.seq (.reg []) (.seq (.join [(13, false, cB)] 16128 (.reg []) (.cond (.seq (.reg []) .leaf) .leaf)) (.seq (.reg []) (.seq (.reg []) (.seq (.seq (.reg []) (.cond (.seq (.reg []) .leaf) .leaf)) (.seq (.reg []) .leaf))))))
/-- consols/consolslaw6.FrameLengths -/
def F20 (p0 : Int) (h : Hp) (Q : Bool → Hp → Prop) : Prop :=
  joinP
    (fun (t1 : Bool) (h1 : Hp) =>
      condP t1 (Q true h1)
        (makeSlP p0 p0 (1 : Nat)
          (allocP (Obj.cells { toList := zerosL p0.toNat [Value.int IntKind.u8 (0 : Int)] : Array Value } (5 : Nat)) h1 fun (k1 : Nat) (h2 : Hp) =>
            callP Try.prog (70 : Nat) [Value.slice (some { block := k1, off := (0 : Nat) : Addr }) p0.toNat p0.toNat] (tupC [cSl, cB]) h2 fun (z1 : Sl × Bool) (h3 : Hp) =>
              callP Try.prog (73 : Nat) [Value.slice z1.fst.a z1.fst.len z1.fst.cap] (tupC [cSl, cI IntKind.i64, cB]) h3 fun (z2 : Sl × Int × Bool) (h4 : Hp) =>
                condP (decide (p0 > (80 : Int)))
                  (condP (!z1.snd) (condP ((↑z1.fst.len : Int) == (0 : Int)) (condP (!z2.snd.snd) (callP Try.prog (72 : Nat) [] cB h4 fun (t2 : Bool) (h5 : Hp) => Q t2 h5) (Q false h4)) (Q false h4)) (Q false h4))
                  (condP z1.snd
                    (condP ((↑z1.fst.len : Int) == IntKind.i64.wrap (p0 + (6 : Int)))
                      (condP z2.snd.snd (condP ((↑z2.fst.len : Int) == p0) (condP (z2.snd.fst == IntKind.i64.wrap (p0 + (6 : Int))) (callP Try.prog (72 : Nat) [] cB h4 fun (t3 : Bool) (h6 : Hp) => Q t3 h6) (Q false h4)) (Q false h4))
                        (Q false h4))
                      (Q false h4))
                    (Q false h4)))))
    fun (J1 : Bool → Hp → Prop) => condP (decide (p0 < (0 : Int))) (J1 true h) (J1 (decide (p0 > (300 : Int))) h)
theorem e20 (p0 : Int) (h : Hp) (Q : Bool → Hp → Prop) : fnD a20 Try.prog 20 n20 (cB) [Value.int IntKind.i64 p0] h Q = F20 p0 h Q := by kernel_rfl
theorem c20 {p0 : Int} {h : Hp} {Q : Bool → Hp → Prop} (hk : F20 p0 h Q) : callP Try.prog 20 [Value.int IntKind.i64 p0] (cB) h Q :=
  spec_of (prem_of prog_ok dep_ok eqs_ok rfl (by kernel_rfl)) mix_ok ((e20 p0 h Q).mpr hk)
def a21 : Ann := { prom := 0, refs := [], dyn := 0, bcd := fun s => match s with | _ => none, eqs := memL eqL, cdc := cdcs, res := ress, pure := memL [97], pan := memL [122, 137] }
def n21 : An := (.seq (.reg []) (.seq (.reg []) (.seq (.reg []) (.seq (.seq (.reg []) (.block (.loop [(3, false, cI .i64), (6, false, cI .i64)] 73786976294838205516 (.seq (.join [(17, false, cB)] 261120 (.reg []) (.cond .leaf .leaf)) (.seq (.block (.seq (.reg []) (.seq (.join [(32, false, cB)] 8455716864 (.reg []) (.cond (.seq (.reg []) .leaf) .leaf)) (.join [(65, false, cB)] 73786976286248271872 (.reg [(0, []), (1, []), (2, []), (3, []), (6, []), (7, []), (8, []), (9, []), (4, []), (10, []), (5, [10]), (11, []), (12, []), (13, []), (14, []), (15, []), (17, []), (18, []), (19, []), (20, []), (16, [20]), (21, []), (22, []), (23, []), (24, []), (26, []), (27, []), (28, []), (29, []), (30, []), (25, [29]), (31, []), (32, [])]) (.cond (.seq (.reg []) .leaf) .leaf))))) (.reg [])))))) (.seq (.reg []) .leaf)))))
/-- consols/consolslaw7.FlowPlays -/
def F21 (p0 : Sl) (h : Hp) (Q : Bool → Hp → Prop) : Prop :=
  callP Try.prog (75 : Nat) [] cP h fun (p1 : Option Addr) (h1 : Hp) =>
    allocP (Obj.cells { toList := [Value.slice none (0 : Nat) (0 : Nat), Value.int IntKind.i64 (0 : Int)] : Array Value } (93 : Nat)) h1 fun (k1 : Nat) (h2 : Hp) =>
      loopP ((0 : Int), (0 : Int)) h2 fun (J1 : Int × Int → Hp → Prop) (z1 : Int × Int) (h3 : Hp) =>
        joinP
          (fun (t1 : Bool) (h4 : Hp) =>
            condP t1
              (idxP p0.a p0.len z1.snd fun (a1 : Addr) =>
                loadP cSl (a1.add (z1.snd.toNat * (1 : Nat))) h4 fun (s1 : Sl) =>
                  joinP
                    (fun (t2 : Bool) (h5 : Hp) =>
                      condP t2 (Q true h5)
                        (joinP (fun (t3 : Bool) (h6 : Hp) => condP t3 (Q false h6) (J1 (IntKind.i64.wrap (z1.fst + (↑s1.len : Int)), IntKind.i64.wrap (z1.snd + (1 : Int))) h6)) fun (J2 : Bool → Hp → Prop) =>
                          idxP p0.a p0.len z1.snd fun (a2 : Addr) =>
                            idxP p0.a p0.len z1.snd fun (a3 : Addr) =>
                              loadP cSl (a2.add (z1.snd.toNat * (1 : Nat))) h5 fun (s2 : Sl) =>
                                loadP cSl (a3.add (z1.snd.toNat * (1 : Nat))) h5 fun (s3 : Sl) =>
                                  callP Try.prog (77 : Nat) [Value.pointer p1, Value.slice s2.a s2.len s2.cap] cSl h5 fun (s4 : Sl) (h7 : Hp) =>
                                    (h7.rds (a3.add (z1.snd.toNat * (1 : Nat))) [Value.slice s3.a s3.len s3.cap] ∧ True) ∧
                                      callP Try.prog (78 : Nat) [Value.pointer (some { block := k1, off := (0 : Nat) : Addr }), Value.slice s3.a s3.len s3.cap] cSl h7 fun (s5 : Sl) (h8 : Hp) =>
                                        callP Try.prog (76 : Nat) [Value.slice s4.a s4.len s4.cap, Value.slice s5.a s5.len s5.cap] cB h8 fun (t4 : Bool) (h9 : Hp) =>
                                          condP (!t4) ((True ∧ True) ∧ (True ∧ True) ∧ J2 true h9)
                                            (loadP (cI IntKind.i64) { block := k1, off := (0 : Nat) + (1 : Nat) : Addr } h9 fun (n1 : Int) =>
                                              callP Try.prog (79 : Nat) [Value.pointer p1] (cI IntKind.i64) h9 fun (n2 : Int) (h10 : Hp) =>
                                                (h10.rds { block := k1, off := (0 : Nat) + (1 : Nat) : Addr } [Value.int IntKind.i64 n1] ∧ True) ∧
                                                  condP (n2 != n1) ((True ∧ True) ∧ J2 true h10)
                                                    (loadP cSl { block := k1, off := (0 : Nat) : Addr } h10 fun (s6 : Sl) =>
                                                      callP Try.prog (80 : Nat) [Value.pointer p1] (cI IntKind.i64) h10 fun (n3 : Int) (h11 : Hp) =>
                                                        (h11.rds { block := k1, off := (0 : Nat) : Addr } [Value.slice s6.a s6.len s6.cap] ∧ True) ∧ J2 (n3 != (↑s6.len : Int)) h11))))
                    fun (J3 : Bool → Hp → Prop) => condP (decide (IntKind.i64.wrap (z1.fst + (↑s1.len : Int)) > (800 : Int))) (J3 true h4) (J3 (decide (z1.snd > (100 : Int))) h4))
              (condP (!p1.isNone) (callP Try.prog (81 : Nat) [] cB h4 fun (t5 : Bool) (h12 : Hp) => Q t5 h12) (Q false h4)))
          fun (J4 : Bool → Hp → Prop) => condP (!p1.isNone) (J4 (decide (z1.snd < (↑p0.len : Int))) h3) (J4 false h3)
theorem e21 (p0 : Sl) (h : Hp) (Q : Bool → Hp → Prop) : fnD a21 Try.prog 21 n21 (cB) [Value.slice p0.a p0.len p0.cap] h Q = F21 p0 h Q := by kernel_rfl
theorem c21 {p0 : Sl} {h : Hp} {Q : Bool → Hp → Prop} (hk : F21 p0 h Q) : callP Try.prog 21 [Value.slice p0.a p0.len p0.cap] (cB) h Q :=
  spec_of (prem_of prog_ok dep_ok eqs_ok rfl (by kernel_rfl)) mix_ok ((e21 p0 h Q).mpr hk)
def a22 : Ann := { prom := 0, refs := [], dyn := 0, bcd := fun s => match s with | _ => none, eqs := memL eqL, cdc := cdcs, res := ress, pure := memL [97], pan := memL [122, 137] }
def n22 : An := (.seq (.reg []) (.seq (.join [(19, false, cB)] 1044480 (.reg []) (.cond (.seq (.reg []) .leaf) .leaf)) (.seq (.reg []) (.seq (.reg []) (.seq (.reg []) (.seq (.reg []) (.seq (.seq (.reg []) (.block (.loop [(8, false, cSl), (9, false, cSl), (10, false, cI .i64)] 2251799746580224 (.seq (.seq (.reg []) (.cond .leaf .leaf)) (.seq (.block (.seq (.reg []) (.seq (.reg []) (.reg [])))) (.reg [])))))) (.seq (.reg []) (.seq (.reg []) .leaf)))))))))
/-- consols/consolslaw7.FlowParts -/
def F22 (p0 : Sl) (p1 : Sl) (h : Hp) (Q : Bool → Hp → Prop) : Prop :=
  joinP
    (fun (t1 : Bool) (h1 : Hp) =>
      condP t1 (Q true h1)
        (callP Try.prog (75 : Nat) [] cP h1 fun (p1_1 : Option Addr) (h2 : Hp) =>
          callP Try.prog (75 : Nat) [] cP h2 fun (p2 : Option Addr) (h3 : Hp) =>
            callP Try.prog (77 : Nat) [Value.pointer p1_1, Value.slice p0.a p0.len p0.cap] cSl h3 fun (s1 : Sl) (h4 : Hp) =>
              loopP ({ a := none, len := (0 : Nat), cap := (0 : Nat) : Sl }, p0, (0 : Int)) h4 fun (J1 : Sl × Sl × Int → Hp → Prop) (z1 : Sl × Sl × Int) (h5 : Hp) =>
                condP (decide (z1.snd.snd < (↑p1.len : Int)))
                  (idxP p1.a p1.len z1.snd.snd fun (a1 : Addr) =>
                    loadP (cI IntKind.i64) (a1.add (z1.snd.snd.toNat * (1 : Nat))) h5 fun (n1 : Int) =>
                      IntKind.i64.wrap ((↑z1.snd.fst.len : Int) + (1 : Int)) ≠ (0 : Int) ∧
                        cutP z1.snd.fst.len z1.snd.fst.cap none (some ((andI IntKind.i64 n1 (65535 : Int)).tmod (IntKind.i64.wrap ((↑z1.snd.fst.len : Int) + (1 : Int))))) fun (k1 k2 : Nat) =>
                          callP Try.prog (77 : Nat) [Value.pointer p2, Value.slice (cutA z1.snd.fst.a k1 z1.snd.fst.cap (1 : Nat)) (k2 - k1) (z1.snd.fst.cap - k1)] cSl h5 fun (s2 : Sl) (h6 : Hp) =>
                            appendP cSl (25 : Nat) (24 : Nat) z1.fst.a z1.fst.len z1.fst.cap s2.a s2.len h6 fun (p3 : Option Addr) (k3 k4 : Nat) (h7 : Hp) =>
                              cutP z1.snd.fst.len z1.snd.fst.cap (some ((andI IntKind.i64 n1 (65535 : Int)).tmod (IntKind.i64.wrap ((↑z1.snd.fst.len : Int) + (1 : Int))))) none fun (k5 k6 : Nat) =>
                                J1 ({ a := p3, len := k3, cap := k4 : Sl }, { a := cutA z1.snd.fst.a k5 z1.snd.fst.cap (1 : Nat), len := k6 - k5, cap := z1.snd.fst.cap - k5 : Sl }, IntKind.i64.wrap (z1.snd.snd + (1 : Int))) h7)
                  (callP Try.prog (77 : Nat) [Value.pointer p2, Value.slice z1.snd.fst.a z1.snd.fst.len z1.snd.fst.cap] cSl h5 fun (s3 : Sl) (h8 : Hp) =>
                    appendP cSl (25 : Nat) (24 : Nat) z1.fst.a z1.fst.len z1.fst.cap s3.a s3.len h8 fun (p4 : Option Addr) (k7 k8 : Nat) (h9 : Hp) =>
                      callP Try.prog (76 : Nat) [Value.slice s1.a s1.len s1.cap, Value.slice p4 k7 k8] cB h9 fun (t2 : Bool) (h10 : Hp) =>
                        condP t2
                          (callP Try.prog (79 : Nat) [Value.pointer p1_1] (cI IntKind.i64) h10 fun (n2 : Int) (h11 : Hp) =>
                            callP Try.prog (79 : Nat) [Value.pointer p2] (cI IntKind.i64) h11 fun (n3 : Int) (h12 : Hp) =>
                              condP (n2 == n3)
                                (callP Try.prog (80 : Nat) [Value.pointer p1_1] (cI IntKind.i64) h12 fun (n4 : Int) (h13 : Hp) =>
                                  callP Try.prog (80 : Nat) [Value.pointer p2] (cI IntKind.i64) h13 fun (n5 : Int) (h14 : Hp) => condP (n4 == n5) (callP Try.prog (81 : Nat) [] cB h14 fun (t3 : Bool) (h15 : Hp) => Q t3 h15) (Q false h14))
                                (Q false h12))
                          (Q false h10))))
    fun (J2 : Bool → Hp → Prop) => condP (decide ((↑p0.len : Int) > (500 : Int))) (J2 true h) (J2 (decide ((↑p1.len : Int) > (60 : Int))) h)
theorem e22 (p0 : Sl) (p1 : Sl) (h : Hp) (Q : Bool → Hp → Prop) : fnD a22 Try.prog 22 n22 (cB) [Value.slice p0.a p0.len p0.cap, Value.slice p1.a p1.len p1.cap] h Q = F22 p0 p1 h Q := by kernel_rfl
theorem c22 {p0 : Sl} {p1 : Sl} {h : Hp} {Q : Bool → Hp → Prop} (hk : F22 p0 p1 h Q) : callP Try.prog 22 [Value.slice p0.a p0.len p0.cap, Value.slice p1.a p1.len p1.cap] (cB) h Q :=
  spec_of (prem_of prog_ok dep_ok eqs_ok rfl (by kernel_rfl)) mix_ok ((e22 p0 p1 h Q).mpr hk)
def a23 : Ann := { prom := 0, refs := [], dyn := 0, bcd := fun s => match s with | _ => none, eqs := memL eqL, cdc := cdcs, res := ress, pure := memL [97], pan := memL [122, 137] }
def n23 : An := (.seq (.reg []) (.seq (.seq (.reg []) (.cond (.seq (.reg []) .leaf) .leaf)) (.seq (.reg []) (.seq (.seq (.reg []) (.block (.loop [(3, false, cSl), (4, false, cI .i64)] 2147479676 (.seq (.seq (.reg []) (.cond .leaf .leaf)) (.seq (.block (.seq (.reg []) (.seq (.seq (.reg []) (.cond (.seq (.reg []) .leaf) .leaf)) (.reg [])))) (.reg [])))))) (.seq (.reg []) (.seq (.reg []) (.seq (.reg []) .leaf)))))))
/-- consols/consolslaw7.FlowFrames -/
def F23 (p0 : Sl) (h : Hp) (Q : Bool → Hp → Prop) : Prop :=
  condP (decide ((↑p0.len : Int) > (12 : Int))) (Q true h)
    (loopP ({ a := none, len := (0 : Nat), cap := (0 : Nat) : Sl }, (0 : Int)) h fun (J1 : Sl × Int → Hp → Prop) (z1 : Sl × Int) (h1 : Hp) =>
      condP (decide (z1.snd < (↑p0.len : Int)))
        (idxP p0.a p0.len z1.snd fun (a1 : Addr) =>
          loadP cSl (a1.add (z1.snd.toNat * (1 : Nat))) h1 fun (s1 : Sl) =>
            callP Try.prog (71 : Nat) [Value.slice s1.a s1.len s1.cap] (tupC [cSl, cB]) h1 fun (z2 : Sl × Bool) (h2 : Hp) =>
              condP (!z2.snd) (Q true h2)
                (appendP (cI IntKind.u8) (5 : Nat) (1 : Nat) z1.fst.a z1.fst.len z1.fst.cap z2.fst.a z2.fst.len h2 fun (p1 : Option Addr) (k1 k2 : Nat) (h3 : Hp) =>
                  J1 ({ a := p1, len := k1, cap := k2 : Sl }, IntKind.i64.wrap (z1.snd + (1 : Int))) h3))
        (callP Try.prog (75 : Nat) [] cP h1 fun (p2 : Option Addr) (h4 : Hp) =>
          callP Try.prog (77 : Nat) [Value.pointer p2, Value.slice z1.fst.a z1.fst.len z1.fst.cap] cSl h4 fun (s2 : Sl) (h5 : Hp) =>
            callP Try.prog (76 : Nat) [Value.slice s2.a s2.len s2.cap, Value.slice p0.a p0.len p0.cap] cB h5 fun (t1 : Bool) (h6 : Hp) =>
              condP t1
                (callP Try.prog (79 : Nat) [Value.pointer p2] (cI IntKind.i64) h6 fun (n1 : Int) (h7 : Hp) =>
                  callP Try.prog (80 : Nat) [Value.pointer p2] (cI IntKind.i64) h7 fun (n2 : Int) (h8 : Hp) =>
                    condP (IntKind.i64.wrap (n1 + n2) == (0 : Int))
                      (callP Try.prog (77 : Nat) [Value.pointer none, Value.slice z1.fst.a z1.fst.len z1.fst.cap] cSl h8 fun (s3 : Sl) (h9 : Hp) =>
                        condP ((↑s3.len : Int) == (0 : Int))
                          (callP Try.prog (79 : Nat) [Value.pointer none] (cI IntKind.i64) h9 fun (n3 : Int) (h10 : Hp) =>
                            callP Try.prog (80 : Nat) [Value.pointer none] (cI IntKind.i64) h10 fun (n4 : Int) (h11 : Hp) =>
                              condP (IntKind.i64.wrap (n3 + n4) == (0 : Int)) (callP Try.prog (81 : Nat) [] cB h11 fun (t2 : Bool) (h12 : Hp) => Q t2 h12) (Q false h11))
                          (Q false h9))
                      (Q false h8))
                (Q false h6)))
theorem e23 (p0 : Sl) (h : Hp) (Q : Bool → Hp → Prop) : fnD a23 Try.prog 23 n23 (cB) [Value.slice p0.a p0.len p0.cap] h Q = F23 p0 h Q := by kernel_rfl
theorem c23 {p0 : Sl} {h : Hp} {Q : Bool → Hp → Prop} (hk : F23 p0 h Q) : callP Try.prog 23 [Value.slice p0.a p0.len p0.cap] (cB) h Q :=
  spec_of (prem_of prog_ok dep_ok eqs_ok rfl (by kernel_rfl)) mix_ok ((e23 p0 h Q).mpr hk)
def a24 : Ann := { prom := 0, refs := [], dyn := 0, bcd := fun s => match s with | _ => none, eqs := memL eqL, cdc := cdcs, res := ress, pure := memL [97], pan := memL [122, 137] }
def n24 : An := (.seq (.reg []) (.seq (.seq (.reg []) (.cond (.seq (.reg []) .leaf) .leaf)) (.seq (.reg []) (.seq (.reg []) (.seq (.reg []) (.seq (.seq (.reg []) (.block (.loop [(5, false, cI .i64), (6, false, cI .i64)] 8589410400 (.seq (.seq (.reg []) (.cond .leaf .leaf)) (.seq (.block (.reg [])) (.reg [])))))) (.seq (.reg []) .leaf)))))))
/-- consols/consolslaw7.FlowCounts -/
def F24 (p0 : Sl) (h : Hp) (Q : Bool → Hp → Prop) : Prop :=
  condP (decide ((↑p0.len : Int) > (500 : Int))) (Q true h)
    (callP Try.prog (75 : Nat) [] cP h fun (p1 : Option Addr) (h1 : Hp) =>
      callP Try.prog (77 : Nat) [Value.pointer p1, Value.slice p0.a p0.len p0.cap] cSl h1 fun (s1 : Sl) (h2 : Hp) =>
        callP Try.prog (79 : Nat) [Value.pointer p1] (cI IntKind.i64) h2 fun (n1 : Int) (h3 : Hp) =>
          callP Try.prog (80 : Nat) [Value.pointer p1] (cI IntKind.i64) h3 fun (n2 : Int) (h4 : Hp) =>
            loopP (IntKind.i64.wrap (n1 + n2), (0 : Int)) h4 fun (J1 : Int × Int → Hp → Prop) (z1 : Int × Int) (h5 : Hp) =>
              condP (decide (z1.snd < (↑s1.len : Int)))
                (idxP s1.a s1.len z1.snd fun (a1 : Addr) =>
                  loadP cSl (a1.add (z1.snd.toNat * (1 : Nat))) h5 fun (s2 : Sl) => J1 (IntKind.i64.wrap (IntKind.i64.wrap (z1.fst + (6 : Int)) + (↑s2.len : Int)), IntKind.i64.wrap (z1.snd + (1 : Int))) h5)
                (condP (z1.fst == (↑p0.len : Int)) (callP Try.prog (81 : Nat) [] cB h5 fun (t1 : Bool) (h6 : Hp) => Q t1 h6) (Q false h5)))
theorem e24 (p0 : Sl) (h : Hp) (Q : Bool → Hp → Prop) : fnD a24 Try.prog 24 n24 (cB) [Value.slice p0.a p0.len p0.cap] h Q = F24 p0 h Q := by kernel_rfl
theorem c24 {p0 : Sl} {h : Hp} {Q : Bool → Hp → Prop} (hk : F24 p0 h Q) : callP Try.prog 24 [Value.slice p0.a p0.len p0.cap] (cB) h Q :=
  spec_of (prem_of prog_ok dep_ok eqs_ok rfl (by kernel_rfl)) mix_ok ((e24 p0 h Q).mpr hk)
def a25 : Ann := { prom := 0, refs := [], dyn := 0, bcd := fun s => match s with | _ => none, eqs := memL eqL, cdc := cdcs, res := ress, pure := memL [97], pan := memL [122, 137] }
def n25 : An := (.seq (.reg []) (.seq (.join [(18, false, cB)] 522240 (.reg []) (.cond (.seq (.reg []) .leaf) .leaf)) (.seq (.reg []) (.seq (.seq (.reg []) (.block (.loop [(6, false, cI .i64)] 8585740368 (.seq (.seq (.reg []) (.cond .leaf .leaf)) (.seq (.block (.seq (.reg []) (.cond (.seq (.reg []) .leaf) .leaf))) (.reg [])))))) (.seq (.seq (.reg []) (.block (.loop [(5, false, cSl), (7, false, cI .i64)] 4503591037436848 (.seq (.seq (.reg []) (.cond .leaf .leaf)) (.seq (.block (.seq (.reg []) (.seq (.seq (.reg []) (.cond (.seq (.reg []) .leaf) .leaf)) (.reg [])))) (.reg [])))))) (.seq (.reg []) (.seq (.reg []) .leaf)))))))
/-- consols/consolslaw7.FlowNoise -/
def F25 (p0 : Sl) (p1 : Sl) (h : Hp) (Q : Bool → Hp → Prop) : Prop :=
  joinP
    (fun (t1 : Bool) (h1 : Hp) =>
      condP t1 (Q true h1)
        (allocP (Obj.cells { toList := [] : Array Value } (5 : Nat)) h1 fun (k1 : Nat) (h2 : Hp) =>
          appendP (cI IntKind.u8) (5 : Nat) (1 : Nat) (some { block := k1, off := (0 : Nat) : Addr }) (0 : Nat) (0 : Nat) p0.a p0.len h2 fun (p1_1 : Option Addr) (k2 k3 : Nat) (h3 : Hp) =>
            loopP (0 : Int) h3 fun (J1 : Int → Hp → Prop) (n1 : Int) (h4 : Hp) =>
              condP (decide (n1 < (↑p0.len : Int)))
                (idxP p0.a p0.len n1 fun (a1 : Addr) => loadP (cI IntKind.u8) (a1.add (n1.toNat * (1 : Nat))) h4 fun (n2 : Int) => condP (n2 == (197 : Int)) (Q true h4) (J1 (IntKind.i64.wrap (n1 + (1 : Int))) h4))
                (loopP ({ a := p1_1, len := k2, cap := k3 : Sl }, (0 : Int)) h4 fun (J2 : Sl × Int → Hp → Prop) (z1 : Sl × Int) (h5 : Hp) =>
                  condP (decide (z1.snd < (↑p1.len : Int)))
                    (idxP p1.a p1.len z1.snd fun (a2 : Addr) =>
                      loadP cSl (a2.add (z1.snd.toNat * (1 : Nat))) h5 fun (s1 : Sl) =>
                        callP Try.prog (71 : Nat) [Value.slice s1.a s1.len s1.cap] (tupC [cSl, cB]) h5 fun (z2 : Sl × Bool) (h6 : Hp) =>
                          condP (!z2.snd) (Q true h6)
                            (appendP (cI IntKind.u8) (5 : Nat) (1 : Nat) z1.fst.a z1.fst.len z1.fst.cap z2.fst.a z2.fst.len h6 fun (p2 : Option Addr) (k4 k5 : Nat) (h7 : Hp) =>
                              J2 ({ a := p2, len := k4, cap := k5 : Sl }, IntKind.i64.wrap (z1.snd + (1 : Int))) h7))
                    (callP Try.prog (75 : Nat) [] cP h5 fun (p3 : Option Addr) (h8 : Hp) =>
                      callP Try.prog (77 : Nat) [Value.pointer p3, Value.slice z1.fst.a z1.fst.len z1.fst.cap] cSl h8 fun (s2 : Sl) (h9 : Hp) =>
                        callP Try.prog (76 : Nat) [Value.slice s2.a s2.len s2.cap, Value.slice p1.a p1.len p1.cap] cB h9 fun (t2 : Bool) (h10 : Hp) =>
                          condP t2
                            (callP Try.prog (79 : Nat) [Value.pointer p3] (cI IntKind.i64) h10 fun (n3 : Int) (h11 : Hp) =>
                              condP (n3 == (↑p0.len : Int))
                                (callP Try.prog (80 : Nat) [Value.pointer p3] (cI IntKind.i64) h11 fun (n4 : Int) (h12 : Hp) =>
                                  condP (n4 == (0 : Int)) (callP Try.prog (81 : Nat) [] cB h12 fun (t3 : Bool) (h13 : Hp) => Q t3 h13) (Q false h12))
                                (Q false h11))
                            (Q false h10)))))
    fun (J3 : Bool → Hp → Prop) => condP (decide ((↑p0.len : Int) > (200 : Int))) (J3 true h) (J3 (decide ((↑p1.len : Int) > (6 : Int))) h)
theorem e25 (p0 : Sl) (p1 : Sl) (h : Hp) (Q : Bool → Hp → Prop) : fnD a25 Try.prog 25 n25 (cB) [Value.slice p0.a p0.len p0.cap, Value.slice p1.a p1.len p1.cap] h Q = F25 p0 p1 h Q := by kernel_rfl
theorem c25 {p0 : Sl} {p1 : Sl} {h : Hp} {Q : Bool → Hp → Prop} (hk : F25 p0 p1 h Q) : callP Try.prog 25 [Value.slice p0.a p0.len p0.cap, Value.slice p1.a p1.len p1.cap] (cB) h Q :=
  spec_of (prem_of prog_ok dep_ok eqs_ok rfl (by kernel_rfl)) mix_ok ((e25 p0 p1 h Q).mpr hk)
def a26 : Ann := { prom := 0, refs := [], dyn := 0, bcd := fun s => match s with | _ => none, eqs := memL eqL, cdc := cdcs, res := ress, pure := memL [97], pan := memL [122, 137] }
def n26 : An := (.seq (.reg []) (.seq (.reg []) (.seq (.join [(27, false, cB)] 268369920 (.reg []) (.cond (.seq (.reg []) .leaf) .leaf)) (.seq (.reg []) (.seq (.reg []) (.seq (.reg []) (.seq (.reg []) (.seq (.reg [(0, []), (1, []), (2, []), (3, []), (4, []), (5, []), (6, []), (7, []), (8, []), (9, []), (10, []), (11, []), (12, []), (13, []), (14, []), (15, []), (18, []), (16, []), (17, []), (19, []), (20, []), (21, []), (22, []), (23, []), (24, []), (25, []), (26, []), (27, []), (28, []), (29, []), (30, []), (31, []), (32, []), (33, []), (34, []), (35, [])]) .leaf))))))))
/-- consols/consolslaw7.FlowHolds -/
def F26 (p0 : Sl) (p1 : Int) (h : Hp) (Q : Bool → Hp → Prop) : Prop :=
  callP Try.prog (71 : Nat) [Value.slice p0.a p0.len p0.cap] (tupC [cSl, cB]) h fun (z1 : Sl × Bool) (h1 : Hp) =>
    joinP
      (fun (t1 : Bool) (h2 : Hp) =>
        condP t1 (Q true h2)
          (callP Try.prog (75 : Nat) [] cP h2 fun (p1_1 : Option Addr) (h3 : Hp) =>
            cutP z1.fst.len z1.fst.cap none (some p1) fun (k1 k2 : Nat) =>
              callP Try.prog (77 : Nat) [Value.pointer p1_1, Value.slice (cutA z1.fst.a k1 z1.fst.cap (1 : Nat)) (k2 - k1) (z1.fst.cap - k1)] cSl h3 fun (s1 : Sl) (h4 : Hp) =>
                callP Try.prog (80 : Nat) [Value.pointer p1_1] (cI IntKind.i64) h4 fun (n1 : Int) (h5 : Hp) =>
                  cutP z1.fst.len z1.fst.cap (some p1) none fun (k3 k4 : Nat) =>
                    callP Try.prog (77 : Nat) [Value.pointer p1_1, Value.slice (cutA z1.fst.a k3 z1.fst.cap (1 : Nat)) (k4 - k3) (z1.fst.cap - k3)] cSl h5 fun (s2 : Sl) (h6 : Hp) =>
                      condP ((↑s1.len : Int) == (0 : Int))
                        (condP (n1 == p1)
                          (condP ((↑s2.len : Int) == (1 : Int))
                            (idxP s2.a s2.len (0 : Int) fun (a1 : Addr) =>
                              loadP cSl (a1.add (0 : Nat)) h6 fun (s3 : Sl) =>
                                strP s3.a s3.len h6 fun (u1 : ByteArray) =>
                                  strP p0.a p0.len h6 fun (u2 : ByteArray) =>
                                    condP (strEq u1 u2)
                                      (callP Try.prog (80 : Nat) [Value.pointer p1_1] (cI IntKind.i64) h6 fun (n2 : Int) (h7 : Hp) =>
                                        condP (n2 == (0 : Int))
                                          (callP Try.prog (79 : Nat) [Value.pointer p1_1] (cI IntKind.i64) h7 fun (n3 : Int) (h8 : Hp) =>
                                            condP (n3 == (0 : Int)) (callP Try.prog (81 : Nat) [] cB h8 fun (t2 : Bool) (h9 : Hp) => Q t2 h9) (Q false h8))
                                          (Q false h7))
                                      (Q false h6))
                            (Q false h6))
                          (Q false h6))
                        (Q false h6)))
      fun (J1 : Bool → Hp → Prop) => condP (!z1.snd) (J1 true h1) (condP (decide (p1 < (0 : Int))) (J1 true h1) (J1 (decide (p1 ≥ (↑z1.fst.len : Int))) h1))
theorem e26 (p0 : Sl) (p1 : Int) (h : Hp) (Q : Bool → Hp → Prop) : fnD a26 Try.prog 26 n26 (cB) [Value.slice p0.a p0.len p0.cap, Value.int IntKind.i64 p1] h Q = F26 p0 p1 h Q := by kernel_rfl
theorem c26 {p0 : Sl} {p1 : Int} {h : Hp} {Q : Bool → Hp → Prop} (hk : F26 p0 p1 h Q) : callP Try.prog 26 [Value.slice p0.a p0.len p0.cap, Value.int IntKind.i64 p1] (cB) h Q :=
  spec_of (prem_of prog_ok dep_ok eqs_ok rfl (by kernel_rfl)) mix_ok ((e26 p0 p1 h Q).mpr hk)
end Go.Proofs.Ytmkgcdgpokidjaa
