/- Chapter 4: what sum's functions say of parts of the heap. -/
import Derived.Test.YtplfogbgobkcfaaF
import Derived.Test.YtplfogbgobkcfaaEX
set_option linter.unusedVariables false
namespace Go.Proofs.Ytplfogbgobkcfaa
open Go.Eng

/-- A sum with a byte more. -/
def nextV (s b : Int) : Int :=
  orI .u32 (shlI .u32 ((IntKind.u32.wrap (shrI .u32 s 16 + (IntKind.u32.wrap (IntKind.u32.wrap (andI .u32 s 65535 + IntKind.u32.wrap b) + 1)).tmod 65521)).tmod 65521) 16)
    ((IntKind.u32.wrap (IntKind.u32.wrap (andI .u32 s 65535 + IntKind.u32.wrap b) + 1)).tmod 65521)
/-- A link, before it is mixed. -/
def mixV (x b : Int) : Int := IntKind.u64.wrap (xorI .u64 x (IntKind.u64.wrap b) * 1099511628211)
def chainV (last : Int) (bs : List Int) : Int :=
  let x := bs.foldl mixV (xorI .u64 last 1469598103934665603)
  xorI .u64 x (shrI .u64 x 29)

theorem next_ok {s b : Int} {h : Hp} {Q : Int → Hp → Prop} (hq : Q (nextV s b) h) : callP Try.prog 17 [Value.int .u32 s, Value.int .u8 b] (cI .u32) h Q := by
  refine c17 ?_
  unfold F17
  exact ⟨by decide, by decide, by decide, by decide, hq⟩
theorem rnext_ok {s b : Int} {h : Hp} {Q : Int → Hp → Prop} (hq : Q (nextV s b) h) : callP Try.prog 55 [Value.int .u32 s, Value.int .u8 b] (cI .u32) h Q := by
  refine c55 ?_
  unfold F55
  exact ⟨by decide, by decide, by decide, by decide, hq⟩

theorem of_ok {p0 : Sl} {g h : Hp} {ss : List Sl} {bss : List (List Int)} (hg : g.sub h) (r : Row cSl g p0 ss) (rr : Rows2 g ss bss) (hl : ss.length ≤ 9223372036854775807) (hb : ∀ bs ∈ bss, bs.length ≤ 9223372036854775807)
    {Q : Int → Hp → Prop} (hq : Q (bss.flatten.foldl nextV 0) h) : callP Try.prog 18 [Value.slice p0.a p0.len p0.cap] (cI .u32) h Q := by
  have hlen := rr.len
  refine c18 ?_
  unfold F18
  refine loop_i (fun z h' => ∃ i : Nat, z.2 = i ∧ i ≤ ss.length ∧ z.1 = (bss.take i).flatten.foldl nextV 0 ∧ h' = h) (fun z => ss.length - z.2.toNat) ⟨0, rfl, Nat.zero_le _, rfl, rfl⟩ ?_
  rintro J ⟨s, n⟩ h' again ⟨i, hi, hle, hs, rfl⟩
  dsimp only at hi hs
  subst hi hs
  refine cond_d (fun hlt => ?_) (fun hge => ?_)
  · dsimp only at hlt
    rw [r.1] at hlt
    have hlt : i < ss.length := by omega
    have hi : ss[i]? = some ss[i] := List.getElem?_eq_getElem hlt
    obtain ⟨bs, hbi, rb⟩ := rr.get i _ hi
    refine idx_row r (by omega) (by omega) fun a ha => load_row r hg rfl ha (i := i) hi (by simp) ?_
    refine loop_i (fun z h'' => ∃ j : Nat, z.2 = j ∧ j ≤ bs.length ∧ z.1 = (bs.take j).foldl nextV ((bss.take i).flatten.foldl nextV 0) ∧ h'' = h') (fun z => bs.length - z.2.toNat) ⟨0, rfl, Nat.zero_le _, rfl, rfl⟩ ?_
    rintro J2 ⟨s2, n2⟩ h'' again2 ⟨j, hj, hle2, hs2, rfl⟩
    dsimp only at hj hs2
    subst hj hs2
    have hbl := hb bs (List.mem_of_getElem? hbi)
    refine cond_d (fun hlt2 => ?_) (fun hge2 => ?_)
    · dsimp only at hlt2
      rw [rb.1] at hlt2
      have hlt2 : j < bs.length := by omega
      have hbj : bs[j]? = some bs[j] := List.getElem?_eq_getElem hlt2
      refine idx_row rb (by omega) (by omega) fun a2 ha2 => load_row rb hg rfl ha2 (i := j) hbj (by simp) ?_
      refine next_ok (again2 _ _ ⟨j + 1, ?_, by omega, ?_, rfl⟩ ?_)
      · dsimp only; exact w64n (by omega)
      · exact (take_foldl nextV _ bs hbj).symm
      · dsimp only; rw [w64n (by omega)]; omega
    · dsimp only at hge2
      rw [rb.1] at hge2
      have hj : j = bs.length := by omega
      subst hj
      refine again _ _ ⟨i + 1, ?_, by omega, ?_, rfl⟩ ?_
      · dsimp only; exact w64n (by omega)
      · dsimp only
        rw [List.take_length, List.take_add_one, hbi, List.flatten_append, List.foldl_append]
        simp
      · dsimp only; rw [w64n (by omega)]; omega
  · dsimp only at hge
    rw [r.1] at hge
    have : i = bss.length := by omega
    subst this
    rw [List.take_length]
    exact hq
end Go.Proofs.Ytplfogbgobkcfaa
