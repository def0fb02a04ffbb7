/- Chapter 4: the laws over an argument. -/
import Derived.Test.YtplfogbgobkcfaaSumQ
set_option linter.unusedVariables false
namespace Go.Proofs.Ytplfogbgobkcfaa
open Go.Eng

/-- A slice of bytes. -/
theorem bytes_of {W : World} {a : Option Addr} {len cap : Nat} (h : Opn Try.prog W 23 [.slice a len cap]) :
    len ≤ cap ∧ cap ≤ maxLen ∧ ∃ bs : List Int, Row (cI .u8) (hpOf W) ⟨a, len, cap⟩ bs ∧ ∀ b ∈ bs, 0 ≤ b ∧ b < 256 := by
  obtain ⟨h1, h2, xs, hr, hx⟩ := open_row (d := 3) (e := 5) (ls := [(.i .u8, 5)]) (cd := cI .u8) id (fun _ => rfl) h (by kernel_rfl) (by kernel_rfl) (by kernel_rfl)
  refine ⟨h1, h2, xs, hr, fun b hb => ?_⟩
  obtain ⟨y, hy0, hy⟩ := hx b hb
  have hby : b = y := hy0
  subst hby
  have : (Lit.int .u8 b).wf = true := hy
  simp [Lit.wf, IntKind.min, IntKind.max, IntKind.signed, IntKind.bits] at this
  omega

theorem sumTells_law (W : World) (p0 : Sl) (p1 : Int) (o0 : Opn Try.prog W 23 [.slice p0.a p0.len p0.cap]) (o1 : Opn Try.prog W 30 [.int .u64 p1]) : F5 p0 p1 (hpOf W) (Lawful (hpOf W)) := by
  obtain ⟨h1, h2, bs, hr, _⟩ := bytes_of o0
  have := hr.1
  dsimp only at this
  refine tells_ok hr ?_
  have : maxLen = 9223372036854775807 := by decide
  omega
end Go.Proofs.Ytplfogbgobkcfaa
