/- LinePlays: for every input the law answers true, and each argument reads as it did. No condition. -/
import Derived.Test.YtmkgcdgpokidjaaGreatRows
import Derived.Test.YtmkgcdgpokidjaaGreatXLine
import Derived.WalkKit
import Derived.ProofKit
import Derived.OpenShut
import Derived.ShutString
import Derived.ChangeOld
import Derived.Below
import Derived.SizedLaws
import Derived.Carry
import Derived.Test.YtmkgcdgpokidjaaGreatEJF
set_option linter.unusedVariables false
namespace Go.Proofs.YtmkgcdgpokidjaaGreat.linePlays
open Go.ChangeShapes Go.WideShapes Go.ChangeAt Go.RowKit Go.Eng
theorem own : ownKnob Tryz.prog.godebug = none := by kernel_rfl
theorem laidOut : laidOutB Tryz.prog = true := by kernel_rfl
set_option maxRecDepth 100000 in
theorem lifted (os : Os) (started : os.Started) (H : Type) (enc : TypeId × Value → H) :
    ReturnsInHanded {} Tryz.checked os 3 .any (Rows.linePlaysSpec.pre6 enc Tryz.prog Tryz.f3 Rows.linePlaysRow.domain false) (Rows.linePlaysSpec.post enc Tryz.prog Tryz.f3 false true false false) := by
  refine returnsInHanded_of_change_sized (C := Tryz.checked) own started (by kernel_rfl) Tryz.func3
    (ChangeSpec.witness6 (enc := enc) (C := Tryz.checked) false ⟨#[], #[.int .i64 0, .slice none 0 0], []⟩ 8 (by kernel_rfl) (by kernel_rfl) (by kernel_rfl) (by kernel_rfl)) ?_
  intro W base args ds gs before hval0 hW hcnd hsz0 _
  have hval : ∀ (j : Nat) t v, Tryz.f3.params[j]? = some t → args[j]? = some v → Value.okWide Tryz.prog W .any base t v := hval0
  have hsz := hsz0
  rw [show Tryz.f3.params.toList = [2, 22] from by kernel_rfl] at hsz
  have hW' := hW
  obtain ⟨p, q, hA0, hV, rfl, hfz, hnd⟩ := hW
  have hA : DataW.TrodAll enc Tryz.prog W 0 (fun _ => true) true Tryz.f3.params.toList args.toList ds p := hA0
  rw [show Tryz.f3.params.toList = [2, 22] from by kernel_rfl] at hA
  rw [show Tryz.f3.params = #[2, 22] from by kernel_rfl] at hval
  obtain ⟨v0, vs0, d0, ds0, p0, q0, hargs, rfl, rfl, h0, r0⟩ := trodAll_cons hA
  obtain ⟨v1, vs1, d1, ds1, p1, q1, rfl, rfl, rfl, h1, r1⟩ := trodAll_cons r0
  obtain ⟨rfl, rfl, rfl⟩ := trodAll_nil r1
  obtain rfl : args = #[v0, v1] := by cases args; simp_all
  obtain ⟨rfl, rfl⟩ := trodVars_none hV
  have lt0 : ∀ x ∈ p0, x.block < W.heap.size := by obtain ⟨m, hm⟩ := h0; exact DataW.trod_lt m _ _ _ hm
  have o0 : Opn Tryz.prog W 2 v0.cells.toList := by obtain ⟨m, hm⟩ := h0; exact ⟨H, enc, _, _, _, m, _, hm, fun k hk => by simpa using List.all_eq_true.1 hsz _ (DataW.weights_mem_each (j := 0) (t := 2) (d := d0) rfl rfl k hk)⟩
  obtain ⟨a0, rfl⟩ := okWide_int (k := .i64) (by kernel_rfl) (hval 0 2 v0 rfl rfl)
  have lt1 : ∀ x ∈ p1, x.block < W.heap.size := by obtain ⟨m, hm⟩ := h1; exact DataW.trod_lt m _ _ _ hm
  have o1 : Opn Tryz.prog W 22 v1.cells.toList := by obtain ⟨m, hm⟩ := h1; exact ⟨H, enc, _, _, _, m, _, hm, fun k hk => by simpa using List.all_eq_true.1 hsz _ (DataW.weights_mem_each (j := 1) (t := 22) (d := d1) rfl rfl k hk)⟩
  obtain ⟨a1, len1, cap1, rfl⟩ := okWide_slice (e := 32) (by kernel_rfl) (hval 1 22 v1 rfl rfl)
  have key := c3 (linePlays_law W a0 ⟨a1, len1, cap1⟩ o0 o1)
  refine (spec_below (R := fun v => v = .bool true) (Spec.mono key (by rintro v h' ⟨x, rfl, rfl, hs⟩; exact ⟨rfl, hs⟩))).mono fun e W' ⟨⟨v, he, hv⟩, bel⟩ => ?_
  subst he
  subst hv
  exact ⟨_, rfl, _, _, _, [], _, [], hW', trodAll_mk1 (shut_bool (t := 4) (by kernel_rfl) _), (trodAll_cons_mk (Below.trod laidOut (by kernel_rfl) (of_decide_eq_true (by kernel_rfl)) h0 bel lt0) (trodAll_cons_mk (Below.trod laidOut (by kernel_rfl) (of_decide_eq_true (by kernel_rfl)) h1 bel lt1) trodAll_mk0)), rfl, bel.frame _, fun h => by cases h⟩
theorem reach : reachB Tryz.pinned.checked.prog 145 3 [3, 4, 20, 44, 21, 22, 5, 23, 24, 6, 25, 45, 46, 77, 94, 76, 75, 78, 26, 47, 48, 79, 95, 49, 50, 80, 81, 27, 51, 82, 96, 74, 52, 83, 84, 28, 54, 65, 86, 98, 53, 85, 97, 55, 36, 7, 29, 56, 71, 92, 100, 57, 30, 58, 87, 88, 99, 60, 59, 31, 61, 89, 64, 43, 62, 63, 32, 35, 72, 68, 93, 73, 12, 8, 9, 33, 66, 67, 90, 10, 34, 69, 70, 91, 11, 14, 37, 15, 38, 13, 16, 39, 17, 40, 18, 41, 19, 42] Rows.linePlaysRow = true := by kernel_rfl
theorem head : Tryz.pinned.checked.prog.initOrder = String.ofList (([104, 97, 114, 110, 101, 115, 115, 32, 53, 49, 48, 53, 102, 97, 55, 57, 102, 98, 48, 52, 56, 98, 56, 56, 57, 101, 100, 98, 50, 57, 55, 100, 48, 50, 53, 55, 56, 50, 101, 98, 99, 102, 57, 102, 54, 50, 50, 57, 100, 97, 48, 98, 50, 98, 101, 52, 98, 52, 102, 97, 48, 51, 55, 101, 48, 56, 53, 101, 97, 54, 51, 97, 32, 99, 117, 116, 32, 97, 116, 32, 99, 111, 110, 115, 111, 108, 115, 47, 99, 111, 110, 115, 111, 108, 115, 108, 97, 119, 50, 52, 46, 76, 105, 110, 101, 80, 108, 97, 121, 115] : List Nat).map Char.ofNat) := by kernel_rfl
def wordNums : List (List Nat) := [[104, 97, 114, 110, 101, 115, 115], [53, 49, 48, 53, 102, 97, 55, 57, 102, 98, 48, 52, 56, 98, 56, 56, 57, 101, 100, 98, 50, 57, 55, 100, 48, 50, 53, 55, 56, 50, 101, 98, 99, 102, 57, 102, 54, 50, 50, 57, 100, 97, 48, 98, 50, 98, 101, 52, 98, 52, 102, 97, 48, 51, 55, 101, 48, 56, 53, 101, 97, 54, 51, 97], [99, 117, 116], [97, 116], [99, 111, 110, 115, 111, 108, 115, 47, 99, 111, 110, 115, 111, 108, 115, 108, 97, 119, 50, 52, 46, 76, 105, 110, 101, 80, 108, 97, 121, 115]]
theorem heads : wordsSigns (([104, 97, 114, 110, 101, 115, 115, 32, 53, 49, 48, 53, 102, 97, 55, 57, 102, 98, 48, 52, 56, 98, 56, 56, 57, 101, 100, 98, 50, 57, 55, 100, 48, 50, 53, 55, 56, 50, 101, 98, 99, 102, 57, 102, 54, 50, 50, 57, 100, 97, 48, 98, 50, 98, 101, 52, 98, 52, 102, 97, 48, 51, 55, 101, 48, 56, 53, 101, 97, 54, 51, 97, 32, 99, 117, 116, 32, 97, 116, 32, 99, 111, 110, 115, 111, 108, 115, 47, 99, 111, 110, 115, 111, 108, 115, 108, 97, 119, 50, 52, 46, 76, 105, 110, 101, 80, 108, 97, 121, 115] : List Nat).map Char.ofNat) = wordNums.map fun w => w.map Char.ofNat := by kernel_rfl
theorem other1 : otherB1 Tryz.pinned.checked.prog Tryz.f3 Rows.linePlaysSpec Rows.linePlaysRow = true := by kernel_rfl
theorem other2 : otherB2 Tryz.pinned.checked.prog Tryz.f3 Rows.linePlaysSpec Rows.linePlaysRow = true := by kernel_rfl
theorem other3 : otherB3 Tryz.pinned.checked.prog Tryz.f3 Rows.linePlaysSpec Rows.linePlaysRow = true := by kernel_rfl
theorem other4 : otherB4 Tryz.pinned.checked.prog Tryz.f3 Rows.linePlaysSpec Rows.linePlaysRow = true := by kernel_rfl
theorem other5 : otherB5 Tryz.pinned.checked.prog Tryz.f3 Rows.linePlaysSpec Rows.linePlaysRow = true := by kernel_rfl
theorem other6 : otherB6 Tryz.pinned.checked.prog Tryz.f3 Rows.linePlaysSpec Rows.linePlaysRow = true := by kernel_rfl
theorem other7 : otherB7 Tryz.pinned.checked.prog Tryz.f3 Rows.linePlaysSpec Rows.linePlaysRow = true := by kernel_rfl
theorem other8 : otherB8 Tryz.pinned.checked.prog Tryz.f3 Rows.linePlaysSpec Rows.linePlaysRow = true := by kernel_rfl
theorem other9 : otherB9 Tryz.pinned.checked.prog Tryz.f3 Rows.linePlaysSpec Rows.linePlaysRow = true := by kernel_rfl
theorem other10 : otherB10 Tryz.pinned.checked.prog Tryz.f3 Rows.linePlaysSpec Rows.linePlaysRow = true := by kernel_rfl
theorem other11 : otherB11 Tryz.pinned.checked.prog (wordsOf wordNums) = true := by kernel_rfl
theorem other12 : otherB12 Rows.linePlaysRow (wordsOf wordNums) = true := by kernel_rfl
theorem other13 : otherB13 Tryz.f3 Tryz.pinned.checked.prog Rows.linePlaysRow (wordsOf wordNums) = true := by kernel_rfl
theorem other14 : otherB14 Tryz.pinned.checked.prog Tryz.f3 Rows.linePlaysSpec Rows.linePlaysRow = true := by kernel_rfl
theorem other15 : otherB15 Tryz.pinned.checked.prog Tryz.f3 Rows.linePlaysSpec Rows.linePlaysRow = true := by kernel_rfl
theorem over : Rows.linePlaysRow.holds Tryz.pinned (OpenSpec.ofChange Rows.linePlaysSpec) :=
  OpenClaim.holds_of_wide 3 Tryz.f3 rfl rfl rfl rfl rfl rfl rfl ⟨rfl, rfl, rfl, rfl, rfl⟩ rfl rfl rfl rfl rfl (by kernel_rfl) Tryz.func3 (joined_of 145 [3, 4, 20, 44, 21, 22, 5, 23, 24, 6, 25, 45, 46, 77, 94, 76, 75, 78, 26, 47, 48, 79, 95, 49, 50, 80, 81, 27, 51, 82, 96, 74, 52, 83, 84, 28, 54, 65, 86, 98, 53, 85, 97, 55, 36, 7, 29, 56, 71, 92, 100, 57, 30, 58, 87, 88, 99, 60, 59, 31, 61, 89, 64, 43, 62, 63, 32, 35, 72, 68, 93, 73, 12, 8, 9, 33, 66, 67, 90, 10, 34, 69, 70, 91, 11, 14, 37, 15, 38, 13, 16, 39, 17, 40, 18, 41, 19, 42] head heads reach other1 other2 other3 other4 other5 other6 other7 other8 other9 other10 other11 other12 other13 other14 other15)
    (of_decide_eq_true (by kernel_rfl)) (by unfold Func.isWrapper; first | (rw [if_pos (by decide +kernel)]; kernel_rfl) | (rw [if_neg (by decide +kernel)]; exact ⟨rfl, rfl⟩))
    (fun os started H enc _ => lifted os started H enc)
end Go.Proofs.YtmkgcdgpokidjaaGreat.linePlays
namespace Go.Proofs.YtmkgcdgpokidjaaGreat
theorem linePlays_holds : Rows.LinePlaysSaid := linePlays.over
end Go.Proofs.YtmkgcdgpokidjaaGreat
