/- TopOrders: for every input the law answers true, and each argument reads as it did. No condition. -/
import Derived.Test.YtkmniidiifpdgaaGreatRows
import Derived.Test.YtkmniidiifpdgaaGreatP06
import Derived.WalkKit
import Derived.ProofKit
import Derived.OpenShut
import Derived.ShutString
import Derived.ChangeOld
import Derived.Below
import Derived.SizedLaws
import Derived.Carry
set_option linter.unusedVariables false
namespace Go.Proofs.YtkmniidiifpdgaaGreat.topOrders
open Go.ChangeShapes Go.WideShapes Go.ChangeAt Go.RowKit Go.Eng
theorem own : ownKnob Tryz.prog.godebug = none := by kernel_rfl
theorem laidOut : laidOutB Tryz.prog = true := by kernel_rfl
set_option maxRecDepth 100000 in
theorem lifted (os : Os) (started : os.Started) (H : Type) (enc : TypeId × Value → H) :
    ReturnsInHanded {} Tryz.checked os 5 .any (Rows.topOrdersSpec.pre6 enc Tryz.prog Tryz.f5 Rows.topOrdersRow.domain false) (Rows.topOrdersSpec.post enc Tryz.prog Tryz.f5 false true false false) := by
  refine returnsInHanded_of_change_sized (C := Tryz.checked) own started (by kernel_rfl) Tryz.func5
    (ChangeSpec.witness6 (enc := enc) (C := Tryz.checked) false ⟨#[], #[.int .i64 0, .slice none 0 0], []⟩ 8 (by kernel_rfl) (by kernel_rfl) (by kernel_rfl) (by kernel_rfl)) ?_
  intro W base args ds gs before hval0 hW hcnd hsz0 _
  have hval : ∀ (j : Nat) t v, Tryz.f5.params[j]? = some t → args[j]? = some v → Value.okWide Tryz.prog W .any base t v := hval0
  have hsz := hsz0
  rw [show Tryz.f5.params.toList = [3, 22] from by kernel_rfl] at hsz
  have hW' := hW
  obtain ⟨p, q, hA0, hV, rfl, hfz, hnd⟩ := hW
  have hA : DataW.TrodAll enc Tryz.prog W 0 (fun _ => true) true Tryz.f5.params.toList args.toList ds p := hA0
  rw [show Tryz.f5.params.toList = [3, 22] from by kernel_rfl] at hA
  rw [show Tryz.f5.params = #[3, 22] from by kernel_rfl] at hval
  obtain ⟨v0, vs0, d0, ds0, p0, q0, hargs, rfl, rfl, h0, r0⟩ := trodAll_cons hA
  obtain ⟨v1, vs1, d1, ds1, p1, q1, rfl, rfl, rfl, h1, r1⟩ := trodAll_cons r0
  obtain ⟨rfl, rfl, rfl⟩ := trodAll_nil r1
  obtain rfl : args = #[v0, v1] := by cases args; simp_all
  obtain ⟨rfl, rfl⟩ := trodVars_none hV
  have lt0 : ∀ x ∈ p0, x.block < W.heap.size := by obtain ⟨m, hm⟩ := h0; exact DataW.trod_lt m _ _ _ hm
  have o0 : Opn Tryz.prog W 3 v0.cells.toList := by obtain ⟨m, hm⟩ := h0; exact ⟨H, enc, _, _, _, m, _, hm, fun k hk => by simpa using List.all_eq_true.1 hsz _ (DataW.weights_mem_each (j := 0) (t := 3) (d := d0) rfl rfl k hk)⟩
  obtain ⟨a0, rfl⟩ := okWide_int (k := .i64) (by kernel_rfl) (hval 0 3 v0 rfl rfl)
  have lt1 : ∀ x ∈ p1, x.block < W.heap.size := by obtain ⟨m, hm⟩ := h1; exact DataW.trod_lt m _ _ _ hm
  have o1 : Opn Tryz.prog W 22 v1.cells.toList := by obtain ⟨m, hm⟩ := h1; exact ⟨H, enc, _, _, _, m, _, hm, fun k hk => by simpa using List.all_eq_true.1 hsz _ (DataW.weights_mem_each (j := 1) (t := 22) (d := d1) rfl rfl k hk)⟩
  obtain ⟨a1, len1, cap1, rfl⟩ := okWide_slice (e := 61) (by kernel_rfl) (hval 1 22 v1 rfl rfl)
  have key := c5 (topOrders_law W a0 ⟨a1, len1, cap1⟩ o0 o1)
  refine (ZX9 (R := fun v => v = .bool true) (ZHt.mono key (by rintro v h' ⟨x, rfl, rfl, hs⟩; exact ⟨rfl, hs⟩))).mono fun e W' ⟨⟨v, he, hv⟩, bel⟩ => ?_
  subst he
  subst hv
  exact ⟨_, rfl, _, _, _, [], _, [], hW', trodAll_mk1 (shut_bool (t := 4) (by kernel_rfl) _), (trodAll_cons_mk (Below.trod laidOut (by kernel_rfl) (of_decide_eq_true (by kernel_rfl)) h0 bel lt0) (trodAll_cons_mk (Below.trod laidOut (by kernel_rfl) (of_decide_eq_true (by kernel_rfl)) h1 bel lt1) trodAll_mk0)), rfl, bel.frame _, fun h => by cases h⟩
theorem reach : ZV9 Tryz.pinned.checked.prog 477 5 [5, 9, 8, 33, 73, 117, 118, 119, 195, 120, 121, 122, 123, 196, 124, 197, 35, 34, 36, 37, 38, 39, 40, 41, 14, 49, 78, 128, 129, 193, 130, 199, 131, 200, 56, 218, 277, 279, 206, 219, 278, 323, 353, 368, 20, 57, 101, 178, 179, 100, 170, 171, 256, 172, 257, 258, 173, 259, 260, 313, 174, 175, 176, 177, 58, 102, 103, 180, 381, 374, 228, 357, 373, 375, 356, 369, 354, 330, 371, 372, 382, 370, 85, 145, 229, 146, 355, 280, 86, 79, 217, 292, 336, 332, 364, 334, 335, 337, 294, 340, 315, 350, 339, 293, 338, 202, 203, 201, 204, 132, 205, 210, 141, 224, 225, 88, 81, 140, 222, 223, 281, 82, 207, 208, 282, 324, 325, 358, 376, 209, 149, 231, 230, 283, 284, 327, 359, 326, 285, 328, 329, 360, 377, 133, 211, 212, 215, 290, 331, 361, 362, 363, 378, 333, 365, 379, 286, 291, 287, 226, 214, 289, 147, 213, 288, 134, 89, 139, 83, 84, 143, 144, 227, 298, 300, 299, 343, 142, 216, 135, 136, 220, 221, 295, 296, 45, 76, 297, 341, 342, 366, 380, 137, 50, 80, 138, 51, 87, 148, 22, 19, 18, 55, 29, 69, 68, 113, 28, 67, 187, 269, 320, 112, 186, 268, 30, 31, 24, 60, 104, 181, 105, 106, 25, 61, 65, 110, 62, 66, 111, 185, 267, 318, 319, 352, 183, 263, 262, 272, 321, 271, 314, 349, 264, 273, 109, 107, 182, 261, 63, 108, 115, 189, 190, 270, 116, 191, 192, 274, 322, 194, 275, 276, 184, 265, 316, 351, 266, 317, 64, 70, 114, 188, 71, 72, 27, 11, 44, 75] Rows.topOrdersRow = true := by kernel_rfl
theorem head : Tryz.pinned.checked.prog.initOrder = String.ofList (([104, 97, 114, 110, 101, 115, 115, 32, 54, 102, 57, 53, 54, 98, 52, 55, 51, 57, 49, 52, 52, 54, 98, 49, 100, 102, 57, 97, 50, 54, 102, 102, 53, 54, 97, 102, 57, 99, 100, 98, 101, 57, 102, 55, 99, 53, 51, 98, 100, 100, 100, 53, 102, 51, 56, 56, 100, 48, 53, 98, 53, 97, 51, 53, 99, 49, 56, 51, 100, 99, 97, 54, 32, 99, 117, 116, 32, 97, 116, 32, 99, 111, 110, 115, 111, 108, 115, 47, 99, 111, 110, 115, 111, 108, 115, 116, 111, 112, 46, 84, 111, 112, 66, 111, 111, 107, 32, 99, 111, 110, 115, 111, 108, 115, 47, 99, 111, 110, 115, 111, 108, 115, 116, 111, 112, 46, 84, 111, 112, 66, 111, 111, 107, 115, 32, 99, 111, 110, 115, 111, 108, 115, 47, 99, 111, 110, 115, 111, 108, 115, 116, 111, 112, 46, 84, 111, 112, 79, 114, 100, 101, 114, 115, 32, 99, 111, 110, 115, 111, 108, 115, 47, 99, 111, 110, 115, 111, 108, 115, 116, 111, 112, 46, 84, 111, 112, 67, 117, 116, 32, 99, 111, 110, 115, 111, 108, 115, 47, 99, 111, 110, 115, 111, 108, 115, 116, 111, 112, 46, 84, 111, 112, 83, 116, 97, 102, 102] : List Nat).map Char.ofNat) := by kernel_rfl
def wordNums : List (List Nat) := [[104, 97, 114, 110, 101, 115, 115], [54, 102, 57, 53, 54, 98, 52, 55, 51, 57, 49, 52, 52, 54, 98, 49, 100, 102, 57, 97, 50, 54, 102, 102, 53, 54, 97, 102, 57, 99, 100, 98, 101, 57, 102, 55, 99, 53, 51, 98, 100, 100, 100, 53, 102, 51, 56, 56, 100, 48, 53, 98, 53, 97, 51, 53, 99, 49, 56, 51, 100, 99, 97, 54], [99, 117, 116], [97, 116], [99, 111, 110, 115, 111, 108, 115, 47, 99, 111, 110, 115, 111, 108, 115, 116, 111, 112, 46, 84, 111, 112, 66, 111, 111, 107], [99, 111, 110, 115, 111, 108, 115, 47, 99, 111, 110, 115, 111, 108, 115, 116, 111, 112, 46, 84, 111, 112, 66, 111, 111, 107, 115], [99, 111, 110, 115, 111, 108, 115, 47, 99, 111, 110, 115, 111, 108, 115, 116, 111, 112, 46, 84, 111, 112, 79, 114, 100, 101, 114, 115], [99, 111, 110, 115, 111, 108, 115, 47, 99, 111, 110, 115, 111, 108, 115, 116, 111, 112, 46, 84, 111, 112, 67, 117, 116], [99, 111, 110, 115, 111, 108, 115, 47, 99, 111, 110, 115, 111, 108, 115, 116, 111, 112, 46, 84, 111, 112, 83, 116, 97, 102, 102]]
theorem heads : wordsSigns (([104, 97, 114, 110, 101, 115, 115, 32, 54, 102, 57, 53, 54, 98, 52, 55, 51, 57, 49, 52, 52, 54, 98, 49, 100, 102, 57, 97, 50, 54, 102, 102, 53, 54, 97, 102, 57, 99, 100, 98, 101, 57, 102, 55, 99, 53, 51, 98, 100, 100, 100, 53, 102, 51, 56, 56, 100, 48, 53, 98, 53, 97, 51, 53, 99, 49, 56, 51, 100, 99, 97, 54, 32, 99, 117, 116, 32, 97, 116, 32, 99, 111, 110, 115, 111, 108, 115, 47, 99, 111, 110, 115, 111, 108, 115, 116, 111, 112, 46, 84, 111, 112, 66, 111, 111, 107, 32, 99, 111, 110, 115, 111, 108, 115, 47, 99, 111, 110, 115, 111, 108, 115, 116, 111, 112, 46, 84, 111, 112, 66, 111, 111, 107, 115, 32, 99, 111, 110, 115, 111, 108, 115, 47, 99, 111, 110, 115, 111, 108, 115, 116, 111, 112, 46, 84, 111, 112, 79, 114, 100, 101, 114, 115, 32, 99, 111, 110, 115, 111, 108, 115, 47, 99, 111, 110, 115, 111, 108, 115, 116, 111, 112, 46, 84, 111, 112, 67, 117, 116, 32, 99, 111, 110, 115, 111, 108, 115, 47, 99, 111, 110, 115, 111, 108, 115, 116, 111, 112, 46, 84, 111, 112, 83, 116, 97, 102, 102] : List Nat).map Char.ofNat) = wordNums.map fun w => w.map Char.ofNat := by kernel_rfl
theorem other1 : ZQX Tryz.pinned.checked.prog Tryz.f5 Rows.topOrdersSpec Rows.topOrdersRow = true := by kernel_rfl
theorem other2 : ZR4 Tryz.pinned.checked.prog Tryz.f5 Rows.topOrdersSpec Rows.topOrdersRow = true := by kernel_rfl
theorem other3 : ZQa Tryz.pinned.checked.prog Tryz.f5 Rows.topOrdersSpec Rows.topOrdersRow = true := by kernel_rfl
theorem other4 : ZTM Tryz.pinned.checked.prog Tryz.f5 Rows.topOrdersSpec Rows.topOrdersRow = true := by kernel_rfl
theorem other5 : ZRy Tryz.pinned.checked.prog Tryz.f5 Rows.topOrdersSpec Rows.topOrdersRow = true := by kernel_rfl
theorem other6 : ZRm Tryz.pinned.checked.prog Tryz.f5 Rows.topOrdersSpec Rows.topOrdersRow = true := by kernel_rfl
theorem other7 : ZRE Tryz.pinned.checked.prog Tryz.f5 Rows.topOrdersSpec Rows.topOrdersRow = true := by kernel_rfl
theorem other8 : ZSz Tryz.pinned.checked.prog Tryz.f5 Rows.topOrdersSpec Rows.topOrdersRow = true := by kernel_rfl
theorem other9 : ZTO Tryz.pinned.checked.prog Tryz.f5 Rows.topOrdersSpec Rows.topOrdersRow = true := by kernel_rfl
theorem other10 : ZN0 Tryz.pinned.checked.prog Tryz.f5 Rows.topOrdersSpec Rows.topOrdersRow = true := by kernel_rfl
theorem other11 : ZTe Tryz.pinned.checked.prog (ZJf wordNums) = true := by kernel_rfl
theorem other12 : ZNT Rows.topOrdersRow (ZJf wordNums) = true := by kernel_rfl
theorem other13 : ZOO Tryz.f5 Tryz.pinned.checked.prog Rows.topOrdersRow (ZJf wordNums) = true := by kernel_rfl
theorem other14 : ZOD Tryz.pinned.checked.prog Tryz.f5 Rows.topOrdersSpec Rows.topOrdersRow = true := by kernel_rfl
theorem other15 : ZOb Tryz.pinned.checked.prog Tryz.f5 Rows.topOrdersSpec Rows.topOrdersRow = true := by kernel_rfl
theorem over : Rows.topOrdersRow.holds Tryz.pinned (OpenSpec.ofChange Rows.topOrdersSpec) :=
  OpenClaim.holds_of_wide 5 Tryz.f5 rfl rfl rfl rfl rfl rfl rfl ⟨rfl, rfl, rfl, rfl, rfl⟩ rfl rfl rfl rfl rfl (by kernel_rfl) Tryz.func5 (ZYI 477 [5, 9, 8, 33, 73, 117, 118, 119, 195, 120, 121, 122, 123, 196, 124, 197, 35, 34, 36, 37, 38, 39, 40, 41, 14, 49, 78, 128, 129, 193, 130, 199, 131, 200, 56, 218, 277, 279, 206, 219, 278, 323, 353, 368, 20, 57, 101, 178, 179, 100, 170, 171, 256, 172, 257, 258, 173, 259, 260, 313, 174, 175, 176, 177, 58, 102, 103, 180, 381, 374, 228, 357, 373, 375, 356, 369, 354, 330, 371, 372, 382, 370, 85, 145, 229, 146, 355, 280, 86, 79, 217, 292, 336, 332, 364, 334, 335, 337, 294, 340, 315, 350, 339, 293, 338, 202, 203, 201, 204, 132, 205, 210, 141, 224, 225, 88, 81, 140, 222, 223, 281, 82, 207, 208, 282, 324, 325, 358, 376, 209, 149, 231, 230, 283, 284, 327, 359, 326, 285, 328, 329, 360, 377, 133, 211, 212, 215, 290, 331, 361, 362, 363, 378, 333, 365, 379, 286, 291, 287, 226, 214, 289, 147, 213, 288, 134, 89, 139, 83, 84, 143, 144, 227, 298, 300, 299, 343, 142, 216, 135, 136, 220, 221, 295, 296, 45, 76, 297, 341, 342, 366, 380, 137, 50, 80, 138, 51, 87, 148, 22, 19, 18, 55, 29, 69, 68, 113, 28, 67, 187, 269, 320, 112, 186, 268, 30, 31, 24, 60, 104, 181, 105, 106, 25, 61, 65, 110, 62, 66, 111, 185, 267, 318, 319, 352, 183, 263, 262, 272, 321, 271, 314, 349, 264, 273, 109, 107, 182, 261, 63, 108, 115, 189, 190, 270, 116, 191, 192, 274, 322, 194, 275, 276, 184, 265, 316, 351, 266, 317, 64, 70, 114, 188, 71, 72, 27, 11, 44, 75] head heads reach other1 other2 other3 other4 other5 other6 other7 other8 other9 other10 other11 other12 other13 other14 other15)
    (of_decide_eq_true (by kernel_rfl)) (by unfold Func.isWrapper; first | (rw [if_pos (by decide +kernel)]; kernel_rfl) | (rw [if_neg (by decide +kernel)]; exact ⟨rfl, rfl⟩))
    (fun os started H enc _ => lifted os started H enc)
end Go.Proofs.YtkmniidiifpdgaaGreat.topOrders
namespace Go.Proofs.YtkmniidiifpdgaaGreat
theorem topOrders_holds : Rows.TopOrdersSaid := topOrders.over
end Go.Proofs.YtkmniidiifpdgaaGreat
