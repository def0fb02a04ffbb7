/- Chapter 9: rows of frames that are the same. -/
import Derived.Test.YtplfogbgobkcfaaKeepS
set_option linter.unusedVariables false
namespace Go.Proofs.Ytplfogbgobkcfaa
open Go.Eng

theorem same_ok {p0 p1 : Sl} {g1 g2 h : Hp} {xs : List Frame} (h1 : g1.sub h) (h2 : g2.sub h) (r1 : Row cFrame g1 p0 xs) (r2 : Row cFrame g2 p1 xs) (hl : xs.length ≤ 1000000) {Q : Bool → Hp → Prop} (hq : Q true h) :
    callP Try.prog 34 [Value.slice p0.a p0.len p0.cap, Value.slice p1.a p1.len p1.cap] cB h Q := by
  refine c34 ?_
  unfold F34
  refine cond_f (by rw [r1.1, r2.1]; simp) ?_
  refine loop_i (fun z h' => ∃ i : Nat, z = i ∧ i ≤ xs.length ∧ h' = h) (fun z => xs.length - z.toNat) ⟨0, rfl, Nat.zero_le _, rfl⟩ ?_
  rintro J z h' again ⟨i, rfl, hle, rfl⟩
  refine cond_d (fun hlt => ?_) fun _ => hq
  rw [r1.1] at hlt
  have hlt : i < xs.length := by omega
  have hi : xs[i]? = some xs[i] := List.getElem?_eq_getElem hlt
  refine idx_row r1 (by omega) (by omega) fun a ha => idx_row r2 (by omega) (by omega) fun a2 ha2 => ?_
  refine load_row r1 h1 rfl ha (i := i) hi (by simp) ?_
  refine load_row r2 h2 rfl ha2 (i := i) hi (by simp) ?_
  refine cond_f (by simp) ?_
  exact again _ _ ⟨i + 1, w64n (by omega), by omega, rfl⟩ (by rw [w64n (by omega)]; omega)
end Go.Proofs.Ytplfogbgobkcfaa
