/- Chapter 4: the laws over an argument. -/
import Derived.Test.YtplfogbgobkcfaaSumM
set_option linter.unusedVariables false
namespace Go.Proofs.Ytplfogbgobkcfaa
open Go.Eng

/-- A slice of bytes. -/
theorem bytes_of {W : World} {s : Sl} (h : Opn Try.prog W 23 [.slice s.a s.len s.cap]) :
    ∃ bs : List Int, Row (cI .u8) (hpOf W) s bs ∧ (∀ b ∈ bs, 0 ≤ b ∧ b < 256) ∧ bs.length ≤ 140737488351232 ∧ bs.length ≤ s.cap := by
  obtain ⟨h1, h2, h3, xs, hr, hx⟩ := open_row (d := 3) (e := 5) (ls := [(.i .u8, 5)]) (cd := cI .u8) id (fun _ => rfl) h (by kernel_rfl) (by kernel_rfl) (by kernel_rfl)
  have hb : Try.prog.bytesOf 5 = 1 := by kernel_rfl
  have hl : s.len = xs.length := hr.1
  refine ⟨xs, hr, fun b hb => ?_, ?_, by omega⟩
  · obtain ⟨y, hy0, hy⟩ := hx b hb
    have hby : b = y := hy0
    subst hby
    have : (Lit.int .u8 b).wf = true := hy
    simp [Lit.wf, IntKind.min, IntKind.max, IntKind.signed, IntKind.bits] at this
    omega
  · rw [hb] at h3
    have : reachBytes = 140737488351232 := by decide
    omega
/-- A slice of slices of bytes. -/
theorem rows_of {W : World} {s : Sl} (h : Opn Try.prog W 22 [.slice s.a s.len s.cap]) :
    ∃ (ss : List Sl) (bss : List (List Int)), Row cSl (hpOf W) s ss ∧ Rows2 (hpOf W) ss bss ∧ (∀ bs ∈ bss, (∀ b ∈ bs, 0 ≤ b ∧ b < 256) ∧ bs.length ≤ 140737488351232) ∧ ss.length ≤ 140737488351232 := by
  obtain ⟨h1, h2, h3, xs, hr, hx⟩ := open_row (d := 3) (e := 23) (ls := [(.sl, 23)]) (cd := cSl) id (fun _ => rfl) h (by kernel_rfl) (by kernel_rfl) (by kernel_rfl)
  have hb : Try.prog.bytesOf 23 = 24 := by kernel_rfl
  have hl : s.len = xs.length := hr.1
  obtain ⟨m, hm⟩ := All2.of (R := fun (s : Sl) (bs : List Int) => Row (cI .u8) (hpOf W) s bs ∧ (∀ b ∈ bs, 0 ≤ b ∧ b < 256) ∧ bs.length ≤ 140737488351232) xs fun x hx' => by
    obtain ⟨y, hy0, hy⟩ := hx x hx'
    have : x = y := hy0
    subst this
    obtain ⟨bs, a1, a2, a3, _⟩ := bytes_of (s := x) hy
    exact ⟨bs, a1, a2, a3⟩
  refine ⟨xs, m, hr, All2.mono (fun _ _ h => h.1) hm, ?_, ?_⟩
  · intro bs hbs
    obtain ⟨i, hi⟩ := List.getElem?_of_mem hbs
    have hlt : i < xs.length := by
      have := (List.getElem?_eq_some_iff.1 hi).1
      rw [hm.len]; exact this
    obtain ⟨b, hb1, hb2⟩ := hm.get i xs[i] (List.getElem?_eq_getElem hlt)
    rw [hi] at hb1
    cases hb1
    exact hb2.2
  · rw [hb] at h3
    have : reachBytes = 140737488351232 := by decide
    omega
theorem u64_of {W : World} {n : Int} (h : Opn Try.prog W 30 [.int .u64 n]) : 0 ≤ n ∧ n < 18446744073709551616 := by
  obtain ⟨x, hx, ok⟩ := open_flat (d := 1) (ls := [(.i .u64, 30)]) h (by kernel_rfl)
  have e : n = x := by
    have : [Value.int .u64 n] = [Value.int .u64 x] := hx
    simpa using this
  have : (Lit.int .u64 x).wf = true := ok
  simp [Lit.wf, IntKind.min, IntKind.max, IntKind.signed, IntKind.bits] at this
  omega

theorem sumTells_law (W : World) (p0 : Sl) (p1 : Int) (o0 : Opn Try.prog W 23 [.slice p0.a p0.len p0.cap]) (_o1 : Opn Try.prog W 30 [.int .u64 p1]) : F5 p0 p1 (hpOf W) (Lawful (hpOf W)) := by
  obtain ⟨bs, hr, _, h3, _⟩ := bytes_of o0
  exact tells_ok hr (by omega)
theorem sumChains_law (W : World) (p0 p1 : Int) (p2 : Sl) (o0 : Opn Try.prog W 30 [.int .u64 p0]) (o1 : Opn Try.prog W 30 [.int .u64 p1]) (o2 : Opn Try.prog W 23 [.slice p2.a p2.len p2.cap]) : F6 p0 p1 p2 (hpOf W) (Lawful (hpOf W)) := by
  obtain ⟨bs, hr, _, h3, _⟩ := bytes_of o2
  refine chains_ok hr (by omega) fun _ => ?_
  by_cases h : p0 = p1
  · subst h; simp
  · have h' : chainV p0 bs ≠ chainV p1 bs := fun e => h (chainV_inj (u64_of o0) (u64_of o1) e)
    rw [beq_eq_false_iff_ne.2 h, beq_eq_false_iff_ne.2 h']
end Go.Proofs.Ytplfogbgobkcfaa
