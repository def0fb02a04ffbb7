/- TopBook: for every input the law answers true, and each argument reads as it did. No condition. -/
import Derived.Test.YtkmniidiifpdgaaGreatRows
import Derived.Test.YtkmniidiifpdgaaGreatP07
import Derived.WalkKit
import Derived.ProofKit
import Derived.OpenShut
import Derived.ShutString
import Derived.ChangeOld
import Derived.Below
import Derived.SizedLaws
import Derived.Carry
set_option linter.unusedVariables false
namespace Go.Eng
def reachU (P : Program) (n : Nat) (f : FuncId) (L : List FuncId) (c : OpenClaim) : Bool :=
  Nat.ble n (1 + (P.funcs.toList.map fun g => (P.leadsTo g).length + 1).sum) && (ZE3 P n [f] [] == some L) &&
  (c.inPlace == L.filterMap fun g => (P.funcs[g]?).bind fun fn => if fn.ours || fn.body.isNone || fn.name == "runtime.NumGoroutine" then some fn.name else none) &&
  (c.unfollowed && c.recurses && (L.any fun g => (P.funcs[g]?).any fun fn => match fn.body with | some c => c.unfollowed | none => entryCalls fn)) &&
  (c.named == (((L.flatMap fun g => ((P.funcs[g]?).bind (·.body)).elim [] Code.globalsNamed).eraseDups).filterMap (fun g => (P.globals[g]?).map (·.name)) ++
    L.filterMap fun g => (P.funcs[g]?).bind fun fn => if fn.body.isNone then entryReads.lookup fn.name else none).eraseDups)
theorem joined_ofU {P : Program} {f : FuncId} {fn : Func} {s : ChangeSpec} {c : OpenClaim} {cs : List Nat} {ws : List (List Nat)} (n : Nat) (L : List FuncId) (hi : P.initOrder = String.ofList (cs.map Char.ofNat)) (hw : wordsSigns (cs.map Char.ofNat) = ws.map fun w => w.map Char.ofNat) (h1 : reachU P n f L c = true) (o1 : ZRz P fn s c = true) (o2 : ZRF P fn s c = true) (o3 : ZUM P fn s c = true) (o4 : ZSF P fn s c = true) (o5 : ZTQ P fn s c = true) (o6 : ZT0 P fn s c = true) (o7 : ZS1 P fn s c = true) (o8 : ZUR P fn s c = true) (o9 : ZRG P fn s c = true) (o10 : ZOO P fn s c = true) (o11 : ZU9 P (ZKQ ws) = true) (o12 : ZNv c (ZKQ ws) = true) (o13 : ZNz fn P c (ZKQ ws) = true) (o14 : ZOI P fn s c = true) (o15 : ZOb P fn s c = true) : joinedFacts P f fn s c = true := by
  unfold reachU at h1
  simp only [Bool.and_eq_true] at h1
  obtain ⟨⟨⟨⟨a1, a2⟩, a4⟩, ⟨a5, a6⟩, a8⟩, a7⟩ := h1
  have hn := Nat.le_of_ble_eq_true a1
  have hL : P.closure f = L := ZJB (by simpa using a2) hn
  have b4 : (c.inPlace == P.inPlace f) = true := by unfold Program.inPlace; rw [hL]; exact a4
  have e : P.unfollowed f = true := by unfold Program.unfollowed; rw [hL]; exact a8
  have b5 : (c.unfollowed == P.unfollowed f) = true := by rw [e, a5]; rfl
  have b6 : (c.recurses == P.recurses f) = true := by unfold Program.recurses; rw [e, a6]; rfl
  have b7 : (c.named == P.varsNamed f) = true := by unfold Program.varsNamed; rw [hL]; exact a7
  unfold ZRz at o1
  have k1 := o1
  unfold ZRF at o2
  have k2 := o2
  unfold ZUM at o3
  have k3 := o3
  unfold ZSF at o4
  simp only [Bool.and_eq_true] at o4
  obtain ⟨⟨⟨⟨⟨k4, k5⟩, k6⟩, k7⟩, k8⟩, k9⟩ := o4
  unfold ZTQ at o5
  simp only [Bool.and_eq_true] at o5
  obtain ⟨⟨k14, k15⟩, k16⟩ := o5
  unfold ZT0 at o6
  have k17 := o6
  unfold ZS1 at o7
  simp only [Bool.and_eq_true] at o7
  obtain ⟨⟨⟨k17b, k18⟩, k19⟩, k20⟩ := o7
  unfold ZUR at o8
  have k21 := o8
  unfold ZRG at o9
  have k22 := o9
  unfold ZOO at o10
  simp only [Bool.and_eq_true] at o10
  obtain ⟨k23, k23b⟩ := o10
  have hW := ZUg hi hw
  have k24 := ZMb hW o11
  unfold ZNv at o12
  rw [← ZJk hW] at o12
  have k24b := o12
  unfold ZNz at o13
  rw [← ZXq hW] at o13
  simp only [Bool.and_eq_true] at o13
  obtain ⟨⟨k24c, k25⟩, k26⟩ := o13
  unfold ZOI at o14
  have k27 := o14
  unfold ZOb at o15
  have k28 := o15
  unfold joinedFacts
  simp only [Bool.and_eq_true]
  exact ⟨⟨⟨⟨⟨⟨⟨⟨⟨⟨⟨⟨⟨⟨⟨⟨⟨⟨⟨⟨⟨⟨⟨⟨⟨⟨⟨⟨⟨⟨⟨k1, k2⟩, k3⟩, k4⟩, k5⟩, k6⟩, k7⟩, k8⟩, k9⟩, b4⟩, b5⟩, b6⟩, b7⟩, k14⟩, k15⟩, k16⟩, k17⟩, k17b⟩, k18⟩, k19⟩, k20⟩, k21⟩, k22⟩, k23⟩, k23b⟩, k24⟩, k24b⟩, k24c⟩, k25⟩, k26⟩, k27⟩, k28⟩
end Go.Eng
namespace Go.Proofs.YtkmniidiifpdgaaGreat.topBook
open Go.ChangeShapes Go.WideShapes Go.ChangeAt Go.RowKit Go.Eng
theorem own : ownKnob Tryz.prog.godebug = none := by kernel_rfl
theorem laidOut : laidOutB Tryz.prog = true := by kernel_rfl
set_option maxRecDepth 100000 in
theorem lifted (os : Os) (started : os.Started) (H : Type) (enc : TypeId × Value → H) :
    ReturnsInHanded {} Tryz.checked os 3 .any (Rows.topBookSpec.pre6 enc Tryz.prog Tryz.f3 Rows.topBookRow.domain false) (Rows.topBookSpec.post enc Tryz.prog Tryz.f3 false true false false) := by
  refine returnsInHanded_of_change_sized (C := Tryz.checked) own started (by kernel_rfl) Tryz.func3
    (ChangeSpec.witness6 (enc := enc) (C := Tryz.checked) false ⟨#[], #[.int .i64 0, .slice none 0 0], []⟩ 8 (by kernel_rfl) (by kernel_rfl) (by kernel_rfl) (by kernel_rfl)) ?_
  intro W base args ds gs before hval0 hW hcnd hsz0 _
  have hval : ∀ (j : Nat) t v, Tryz.f3.params[j]? = some t → args[j]? = some v → Value.okWide Tryz.prog W .any base t v := hval0
  have hsz := hsz0
  rw [show Tryz.f3.params.toList = [3, 22] from by kernel_rfl] at hsz
  have hW' := hW
  obtain ⟨p, q, hA0, hV, rfl, hfz, hnd⟩ := hW
  have hA : DataW.TrodAll enc Tryz.prog W 0 (fun _ => true) true Tryz.f3.params.toList args.toList ds p := hA0
  rw [show Tryz.f3.params.toList = [3, 22] from by kernel_rfl] at hA
  rw [show Tryz.f3.params = #[3, 22] from by kernel_rfl] at hval
  obtain ⟨v0, vs0, d0, ds0, p0, q0, hargs, rfl, rfl, h0, r0⟩ := trodAll_cons hA
  obtain ⟨v1, vs1, d1, ds1, p1, q1, rfl, rfl, rfl, h1, r1⟩ := trodAll_cons r0
  obtain ⟨rfl, rfl, rfl⟩ := trodAll_nil r1
  obtain rfl : args = #[v0, v1] := by cases args; simp_all
  obtain ⟨rfl, rfl⟩ := trodVars_none hV
  have lt0 : ∀ x ∈ p0, x.block < W.heap.size := by obtain ⟨m, hm⟩ := h0; exact DataW.trod_lt m _ _ _ hm
  have o0 : Opn Tryz.prog W 3 v0.cells.toList := by obtain ⟨m, hm⟩ := h0; exact ⟨H, enc, _, _, _, m, _, hm, fun k hk => by simpa using List.all_eq_true.1 hsz _ (DataW.weights_mem_each (j := 0) (t := 3) (d := d0) rfl rfl k hk)⟩
  obtain ⟨a0, rfl⟩ := okWide_int (k := .i64) (by kernel_rfl) (hval 0 3 v0 rfl rfl)
  have lt1 : ∀ x ∈ p1, x.block < W.heap.size := by obtain ⟨m, hm⟩ := h1; exact DataW.trod_lt m _ _ _ hm
  have o1 : Opn Tryz.prog W 22 v1.cells.toList := by obtain ⟨m, hm⟩ := h1; exact ⟨H, enc, _, _, _, m, _, hm, fun k hk => by simpa using List.all_eq_true.1 hsz _ (DataW.weights_mem_each (j := 1) (t := 22) (d := d1) rfl rfl k hk)⟩
  obtain ⟨a1, len1, cap1, rfl⟩ := okWide_slice (e := 61) (by kernel_rfl) (hval 1 22 v1 rfl rfl)
  have key := c3 (topBook_law W a0 ⟨a1, len1, cap1⟩ o0 o1)
  refine (ZZl (R := fun v => v = .bool true) (ZHn.mono key (by rintro v h' ⟨x, rfl, rfl, hs⟩; exact ⟨rfl, hs⟩))).mono fun e W' ⟨⟨v, he, hv⟩, bel⟩ => ?_
  subst he
  subst hv
  exact ⟨_, rfl, _, _, _, [], _, [], hW', trodAll_mk1 (shut_bool (t := 4) (by kernel_rfl) _), (trodAll_cons_mk (Below.trod laidOut (by kernel_rfl) (of_decide_eq_true (by kernel_rfl)) h0 bel lt0) (trodAll_cons_mk (Below.trod laidOut (by kernel_rfl) (of_decide_eq_true (by kernel_rfl)) h1 bel lt1) trodAll_mk0)), rfl, bel.frame _, fun h => by cases h⟩
theorem reach : reachU Tryz.pinned.checked.prog 697 3 [3, 9, 8, 33, 73, 117, 118, 119, 195, 120, 121, 122, 123, 196, 124, 197, 35, 34, 36, 37, 38, 39, 40, 41, 10, 42, 74, 125, 198, 126, 43, 11, 44, 75, 12, 45, 76, 13, 46, 47, 77, 127, 16, 48, 14, 49, 78, 128, 129, 193, 130, 199, 131, 200, 56, 218, 277, 279, 206, 219, 278, 323, 353, 368, 20, 57, 101, 178, 179, 100, 170, 171, 256, 172, 257, 258, 173, 259, 260, 313, 174, 175, 176, 177, 58, 102, 103, 180, 381, 374, 228, 357, 373, 375, 356, 369, 354, 330, 371, 372, 382, 370, 85, 145, 229, 146, 355, 280, 86, 79, 217, 292, 336, 332, 364, 334, 335, 337, 294, 340, 315, 350, 339, 293, 338, 202, 203, 201, 204, 132, 205, 210, 141, 224, 225, 88, 81, 140, 222, 223, 281, 82, 207, 208, 282, 324, 325, 358, 376, 209, 149, 231, 230, 283, 284, 327, 359, 326, 285, 328, 329, 360, 377, 133, 211, 212, 215, 290, 331, 361, 362, 363, 378, 333, 365, 379, 286, 291, 287, 226, 214, 289, 147, 213, 288, 134, 89, 139, 83, 84, 143, 144, 227, 298, 300, 299, 343, 142, 216, 135, 136, 220, 221, 295, 296, 297, 341, 342, 366, 380, 137, 50, 80, 138, 51, 87, 148, 15, 52, 90, 28, 67, 150, 232, 151, 233, 234, 243, 235, 236, 301, 21, 59, 344, 302, 307, 346, 367, 345, 97, 168, 239, 303, 91, 69, 237, 254, 310, 347, 308, 309, 348, 312, 311, 152, 238, 304, 153, 154, 240, 241, 163, 305, 242, 306, 155, 93, 244, 167, 96, 99, 156, 245, 246, 157, 247, 17, 248, 249, 158, 251, 169, 250, 159, 252, 253, 164, 165, 255, 160, 95, 94, 166, 161, 162, 53, 92, 54, 98, 18, 55, 29, 68, 113, 187, 269, 320, 112, 186, 268, 30, 31, 24, 60, 104, 181, 105, 106, 25, 61, 65, 110, 62, 66, 111, 185, 267, 318, 319, 352, 183, 263, 262, 272, 321, 271, 314, 349, 264, 273, 109, 107, 182, 261, 63, 108, 115, 189, 190, 270, 116, 191, 192, 274, 322, 194, 275, 276, 184, 265, 316, 351, 266, 317, 64, 70, 114, 188, 71, 72, 27] Rows.topBookRow = true := by kernel_rfl
theorem head : Tryz.pinned.checked.prog.initOrder = String.ofList (([104, 97, 114, 110, 101, 115, 115, 32, 54, 102, 57, 53, 54, 98, 52, 55, 51, 57, 49, 52, 52, 54, 98, 49, 100, 102, 57, 97, 50, 54, 102, 102, 53, 54, 97, 102, 57, 99, 100, 98, 101, 57, 102, 55, 99, 53, 51, 98, 100, 100, 100, 53, 102, 51, 56, 56, 100, 48, 53, 98, 53, 97, 51, 53, 99, 49, 56, 51, 100, 99, 97, 54, 32, 99, 117, 116, 32, 97, 116, 32, 99, 111, 110, 115, 111, 108, 115, 47, 99, 111, 110, 115, 111, 108, 115, 116, 111, 112, 46, 84, 111, 112, 66, 111, 111, 107, 32, 99, 111, 110, 115, 111, 108, 115, 47, 99, 111, 110, 115, 111, 108, 115, 116, 111, 112, 46, 84, 111, 112, 66, 111, 111, 107, 115, 32, 99, 111, 110, 115, 111, 108, 115, 47, 99, 111, 110, 115, 111, 108, 115, 116, 111, 112, 46, 84, 111, 112, 79, 114, 100, 101, 114, 115, 32, 99, 111, 110, 115, 111, 108, 115, 47, 99, 111, 110, 115, 111, 108, 115, 116, 111, 112, 46, 84, 111, 112, 67, 117, 116, 32, 99, 111, 110, 115, 111, 108, 115, 47, 99, 111, 110, 115, 111, 108, 115, 116, 111, 112, 46, 84, 111, 112, 83, 116, 97, 102, 102] : List Nat).map Char.ofNat) := by kernel_rfl
def wordNums : List (List Nat) := [[104, 97, 114, 110, 101, 115, 115], [54, 102, 57, 53, 54, 98, 52, 55, 51, 57, 49, 52, 52, 54, 98, 49, 100, 102, 57, 97, 50, 54, 102, 102, 53, 54, 97, 102, 57, 99, 100, 98, 101, 57, 102, 55, 99, 53, 51, 98, 100, 100, 100, 53, 102, 51, 56, 56, 100, 48, 53, 98, 53, 97, 51, 53, 99, 49, 56, 51, 100, 99, 97, 54], [99, 117, 116], [97, 116], [99, 111, 110, 115, 111, 108, 115, 47, 99, 111, 110, 115, 111, 108, 115, 116, 111, 112, 46, 84, 111, 112, 66, 111, 111, 107], [99, 111, 110, 115, 111, 108, 115, 47, 99, 111, 110, 115, 111, 108, 115, 116, 111, 112, 46, 84, 111, 112, 66, 111, 111, 107, 115], [99, 111, 110, 115, 111, 108, 115, 47, 99, 111, 110, 115, 111, 108, 115, 116, 111, 112, 46, 84, 111, 112, 79, 114, 100, 101, 114, 115], [99, 111, 110, 115, 111, 108, 115, 47, 99, 111, 110, 115, 111, 108, 115, 116, 111, 112, 46, 84, 111, 112, 67, 117, 116], [99, 111, 110, 115, 111, 108, 115, 47, 99, 111, 110, 115, 111, 108, 115, 116, 111, 112, 46, 84, 111, 112, 83, 116, 97, 102, 102]]
theorem heads : wordsSigns (([104, 97, 114, 110, 101, 115, 115, 32, 54, 102, 57, 53, 54, 98, 52, 55, 51, 57, 49, 52, 52, 54, 98, 49, 100, 102, 57, 97, 50, 54, 102, 102, 53, 54, 97, 102, 57, 99, 100, 98, 101, 57, 102, 55, 99, 53, 51, 98, 100, 100, 100, 53, 102, 51, 56, 56, 100, 48, 53, 98, 53, 97, 51, 53, 99, 49, 56, 51, 100, 99, 97, 54, 32, 99, 117, 116, 32, 97, 116, 32, 99, 111, 110, 115, 111, 108, 115, 47, 99, 111, 110, 115, 111, 108, 115, 116, 111, 112, 46, 84, 111, 112, 66, 111, 111, 107, 32, 99, 111, 110, 115, 111, 108, 115, 47, 99, 111, 110, 115, 111, 108, 115, 116, 111, 112, 46, 84, 111, 112, 66, 111, 111, 107, 115, 32, 99, 111, 110, 115, 111, 108, 115, 47, 99, 111, 110, 115, 111, 108, 115, 116, 111, 112, 46, 84, 111, 112, 79, 114, 100, 101, 114, 115, 32, 99, 111, 110, 115, 111, 108, 115, 47, 99, 111, 110, 115, 111, 108, 115, 116, 111, 112, 46, 84, 111, 112, 67, 117, 116, 32, 99, 111, 110, 115, 111, 108, 115, 47, 99, 111, 110, 115, 111, 108, 115, 116, 111, 112, 46, 84, 111, 112, 83, 116, 97, 102, 102] : List Nat).map Char.ofNat) = wordNums.map fun w => w.map Char.ofNat := by kernel_rfl
theorem other1 : ZRz Tryz.pinned.checked.prog Tryz.f3 Rows.topBookSpec Rows.topBookRow = true := by kernel_rfl
theorem other2 : ZRF Tryz.pinned.checked.prog Tryz.f3 Rows.topBookSpec Rows.topBookRow = true := by kernel_rfl
theorem other3 : ZUM Tryz.pinned.checked.prog Tryz.f3 Rows.topBookSpec Rows.topBookRow = true := by kernel_rfl
theorem other4 : ZSF Tryz.pinned.checked.prog Tryz.f3 Rows.topBookSpec Rows.topBookRow = true := by kernel_rfl
theorem other5 : ZTQ Tryz.pinned.checked.prog Tryz.f3 Rows.topBookSpec Rows.topBookRow = true := by kernel_rfl
theorem other6 : ZT0 Tryz.pinned.checked.prog Tryz.f3 Rows.topBookSpec Rows.topBookRow = true := by kernel_rfl
theorem other7 : ZS1 Tryz.pinned.checked.prog Tryz.f3 Rows.topBookSpec Rows.topBookRow = true := by kernel_rfl
theorem other8 : ZUR Tryz.pinned.checked.prog Tryz.f3 Rows.topBookSpec Rows.topBookRow = true := by kernel_rfl
theorem other9 : ZRG Tryz.pinned.checked.prog Tryz.f3 Rows.topBookSpec Rows.topBookRow = true := by kernel_rfl
theorem other10 : ZOO Tryz.pinned.checked.prog Tryz.f3 Rows.topBookSpec Rows.topBookRow = true := by kernel_rfl
theorem other11 : ZU9 Tryz.pinned.checked.prog (ZKQ wordNums) = true := by kernel_rfl
theorem other12 : ZNv Rows.topBookRow (ZKQ wordNums) = true := by kernel_rfl
theorem other13 : ZNz Tryz.f3 Tryz.pinned.checked.prog Rows.topBookRow (ZKQ wordNums) = true := by kernel_rfl
theorem other14 : ZOI Tryz.pinned.checked.prog Tryz.f3 Rows.topBookSpec Rows.topBookRow = true := by kernel_rfl
theorem other15 : ZOb Tryz.pinned.checked.prog Tryz.f3 Rows.topBookSpec Rows.topBookRow = true := by kernel_rfl
theorem over : Rows.topBookRow.holds Tryz.pinned (OpenSpec.ofChange Rows.topBookSpec) :=
  OpenClaim.holds_of_wide 3 Tryz.f3 rfl rfl rfl rfl rfl rfl rfl ⟨rfl, rfl, rfl, rfl, rfl⟩ rfl rfl rfl rfl rfl (by kernel_rfl) Tryz.func3 (joined_ofU 697 [3, 9, 8, 33, 73, 117, 118, 119, 195, 120, 121, 122, 123, 196, 124, 197, 35, 34, 36, 37, 38, 39, 40, 41, 10, 42, 74, 125, 198, 126, 43, 11, 44, 75, 12, 45, 76, 13, 46, 47, 77, 127, 16, 48, 14, 49, 78, 128, 129, 193, 130, 199, 131, 200, 56, 218, 277, 279, 206, 219, 278, 323, 353, 368, 20, 57, 101, 178, 179, 100, 170, 171, 256, 172, 257, 258, 173, 259, 260, 313, 174, 175, 176, 177, 58, 102, 103, 180, 381, 374, 228, 357, 373, 375, 356, 369, 354, 330, 371, 372, 382, 370, 85, 145, 229, 146, 355, 280, 86, 79, 217, 292, 336, 332, 364, 334, 335, 337, 294, 340, 315, 350, 339, 293, 338, 202, 203, 201, 204, 132, 205, 210, 141, 224, 225, 88, 81, 140, 222, 223, 281, 82, 207, 208, 282, 324, 325, 358, 376, 209, 149, 231, 230, 283, 284, 327, 359, 326, 285, 328, 329, 360, 377, 133, 211, 212, 215, 290, 331, 361, 362, 363, 378, 333, 365, 379, 286, 291, 287, 226, 214, 289, 147, 213, 288, 134, 89, 139, 83, 84, 143, 144, 227, 298, 300, 299, 343, 142, 216, 135, 136, 220, 221, 295, 296, 297, 341, 342, 366, 380, 137, 50, 80, 138, 51, 87, 148, 15, 52, 90, 28, 67, 150, 232, 151, 233, 234, 243, 235, 236, 301, 21, 59, 344, 302, 307, 346, 367, 345, 97, 168, 239, 303, 91, 69, 237, 254, 310, 347, 308, 309, 348, 312, 311, 152, 238, 304, 153, 154, 240, 241, 163, 305, 242, 306, 155, 93, 244, 167, 96, 99, 156, 245, 246, 157, 247, 17, 248, 249, 158, 251, 169, 250, 159, 252, 253, 164, 165, 255, 160, 95, 94, 166, 161, 162, 53, 92, 54, 98, 18, 55, 29, 68, 113, 187, 269, 320, 112, 186, 268, 30, 31, 24, 60, 104, 181, 105, 106, 25, 61, 65, 110, 62, 66, 111, 185, 267, 318, 319, 352, 183, 263, 262, 272, 321, 271, 314, 349, 264, 273, 109, 107, 182, 261, 63, 108, 115, 189, 190, 270, 116, 191, 192, 274, 322, 194, 275, 276, 184, 265, 316, 351, 266, 317, 64, 70, 114, 188, 71, 72, 27] head heads reach other1 other2 other3 other4 other5 other6 other7 other8 other9 other10 other11 other12 other13 other14 other15)
    (of_decide_eq_true (by kernel_rfl)) (by unfold Func.isWrapper; first | (rw [if_pos (by decide +kernel)]; kernel_rfl) | (rw [if_neg (by decide +kernel)]; exact ⟨rfl, rfl⟩))
    (fun os started H enc _ => lifted os started H enc)
end Go.Proofs.YtkmniidiifpdgaaGreat.topBook
namespace Go.Proofs.YtkmniidiifpdgaaGreat
theorem topBook_holds : Rows.TopBookSaid := topBook.over
end Go.Proofs.YtkmniidiifpdgaaGreat
