/- Chapter 3: numbers as bytes. -/
import Derived.Test.YtmkgcdgpokidjaaBaseA
set_option linter.unusedVariables false
namespace Go.Proofs.Ytmkgcdgpokidjaa
open Go.Eng

/-- A number as one that is not negative. -/
def zigV (n : Int) : Int := if n < 0 then -2 * n - 1 else 2 * n
def I64 (n : Int) : Prop := -9223372036854775808 ≤ n ∧ n ≤ 9223372036854775807
theorem zig_range {n : Int} (h : I64 n) : 0 ≤ zigV n ∧ zigV n < 18446744073709551616 := by
  unfold I64 at h; unfold zigV; split <;> omega
theorem zig_inj {n m : Int} (h : zigV n = zigV m) : n = m := by
  unfold zigV at h; split at h <;> split at h <;> omega
/-- Groups of seven digits, the lowest first. -/
def grp (z : Nat) : List Int := if z < 128 then [(z : Int)] else ((z % 128 + 128 : Nat) : Int) :: grp (z / 128)
termination_by z
decreasing_by omega
theorem grp_lt {z : Nat} (h : z < 128) : grp z = [(z : Int)] := by unfold grp; rw [if_pos h]
theorem grp_ge {z : Nat} (h : 128 ≤ z) : grp z = ((z % 128 + 128 : Nat) : Int) :: grp (z / 128) := by rw [grp, if_neg (by omega)]
theorem grp_len : ∀ (k z : Nat), 0 < k → z < 128 ^ k → (grp z).length ≤ k
  | 0, _, h, _ => by omega
  | k + 1, z, _, h => by
    by_cases hz : z < 128
    · rw [grp_lt hz]; simp
    · rw [grp_ge (by omega)]
      have hk : 0 < k := by
        rcases Nat.eq_zero_or_pos k with h0 | h0
        · subst h0; simp at h; omega
        · exact h0
      have := grp_len k (z / 128) hk (by rw [Nat.pow_succ] at h; exact Nat.div_lt_of_lt_mul (by rw [Nat.mul_comm]; exact h))
      simp only [List.length_cons]; omega
theorem grp_byte : ∀ (z : Nat), ∀ b ∈ grp z, 0 ≤ b ∧ b < 256 := by
  intro z
  induction z using Nat.strongRecOn with
  | _ z ih =>
    intro b hb
    by_cases hz : z < 128
    · rw [grp_lt hz] at hb; rw [List.mem_singleton] at hb; omega
    · rw [grp_ge (by omega)] at hb
      rcases List.mem_cons.1 hb with rfl | hb
      · omega
      · exact ih (z / 128) (by omega) b hb
theorem grp_ne (z : Nat) : grp z ≠ [] := by
  by_cases hz : z < 128
  · rw [grp_lt hz]; simp
  · rw [grp_ge (by omega)]; simp
/-- A number's bytes; numbers' bytes. -/
def one3 (n : Int) : List Int := grp (zigV n).toNat
def putV (l : List Int) : List Int := l.flatMap one3
theorem one3_len {n : Int} (h : I64 n) : (one3 n).length ≤ 10 := by
  have := zig_range h
  exact grp_len 10 _ (by decide) (by omega)
theorem putV_cons (n : Int) (l : List Int) : putV (n :: l) = one3 n ++ putV l := rfl
theorem putV_append (a b : List Int) : putV (a ++ b) = putV a ++ putV b := by simp [putV]
theorem putV_len : ∀ (l : List Int), (∀ n ∈ l, I64 n) → (putV l).length ≤ 10 * l.length
  | [], _ => by simp [putV]
  | n :: l, h => by
    have h1 := one3_len (h n (by simp))
    have h2 := putV_len l fun x hx => h x (by simp [hx])
    rw [putV_cons, List.length_append, List.length_cons]; omega
theorem putV_byte (l : List Int) : ∀ b ∈ putV l, 0 ≤ b ∧ b < 256 := by
  intro b hb
  obtain ⟨n, _, hb⟩ := List.mem_flatMap.1 hb
  exact grp_byte _ b hb
theorem putV_take {l : List Int} {i : Nat} {x : Int} (hx : l[i]? = some x) : putV (l.take (i + 1)) = putV (l.take i) ++ one3 x := by
  have : l.take (i + 1) = l.take i ++ [x] := by rw [List.take_add_one, hx]; rfl
  rw [this, putV_append]
  simp [putV]
/-! ### words of the machine -/
theorem wrap8 (n : Int) : IntKind.u8.wrap n = n % 256 := by simp [IntKind.wrap, IntKind.signed, IntKind.bits]
set_option maxRecDepth 10000 in
theorem or8 (z : Nat) : orI .u8 (IntKind.u8.wrap (z : Int)) 128 = ((z % 128 + 128 : Nat) : Int) := by
  show IntKind.u8.wrap ((BitVec.ofInt 8 (IntKind.u8.wrap (z : Int)) ||| BitVec.ofInt 8 128).toNat : Int) = _
  have key : ∀ x : Fin 256, ((BitVec.ofNat 8 x.val ||| 128#8).toNat : Nat) = x.val % 128 + 128 := by decide
  have e : BitVec.ofInt 8 (IntKind.u8.wrap (z : Int)) = BitVec.ofNat 8 (z % 256) := by
    rw [wrap8, show ((z : Int) % 256) = ((z % 256 : Nat) : Int) by omega, BitVec.ofInt_natCast]
  rw [e, show BitVec.ofInt 8 128 = 128#8 from rfl, key ⟨z % 256, by omega⟩, wrap8]
  dsimp only
  omega
theorem shr7 (z : Nat) : shrI .u64 (z : Int) 7 = ((z / 128 : Nat) : Int) := by
  show (z : Int).fdiv (2 ^ 7) = _
  rw [Int.fdiv_eq_ediv_of_nonneg _ (by decide)]
  omega
theorem xor_zero64 {x : Int} (h : 0 ≤ x ∧ x < 18446744073709551616) : xorI .u64 x 0 = x := by
  apply toB_inj (xor_range _ _) h
  rw [toB_xor, show toB 0 = 0#64 from rfl, BitVec.xor_zero]
theorem xor_ones64 {x : Int} (h : 0 ≤ x ∧ x < 18446744073709551616) : xorI .u64 x 18446744073709551615 = 18446744073709551615 - x := by
  apply toB_inj (xor_range _ _) (by omega)
  rw [toB_xor, show toB 18446744073709551615 = BitVec.allOnes 64 by decide, BitVec.xor_allOnes]
  apply BitVec.eq_of_toNat_eq
  rw [BitVec.toNat_not]
  simp only [toB, BitVec.toNat_ofInt]
  omega
theorem turned_eq {n : Int} (h : I64 n) : xorI .u64 (shlI .u64 (IntKind.u64.wrap n) 1) (IntKind.u64.wrap (shrI .i64 n 63)) = zigV n := by
  unfold I64 at h
  have e1 : shlI .u64 (IntKind.u64.wrap n) 1 = (2 * n) % 18446744073709551616 := by
    show IntKind.u64.wrap (IntKind.u64.wrap n * 2 ^ 1) = _
    rw [wrap64, wrap64]; omega
  have e2 : shrI .i64 n 63 = if n < 0 then -1 else 0 := by
    show n.fdiv (2 ^ 63) = _
    rw [Int.fdiv_eq_ediv_of_nonneg _ (by decide)]
    split <;> omega
  rw [e1, e2]
  unfold zigV
  split
  · rw [show IntKind.u64.wrap (-1) = 18446744073709551615 by decide, xor_ones64 (by omega)]; omega
  · rw [show IntKind.u64.wrap 0 = 0 by decide, xor_zero64 (by omega)]; omega
theorem zig_eq1 {n : Int} (h : I64 n) (hn : n < 0) : IntKind.u64.wrap (IntKind.u64.wrap (2 * IntKind.u64.wrap (IntKind.i64.wrap (0 - IntKind.i64.wrap (n + 1)))) + 1) = zigV n := by
  unfold I64 at h
  rw [w64 (n := n + 1) (by omega) (by omega), w64 (by omega) (by omega), wrap64, wrap64, wrap64]
  unfold zigV; rw [if_pos hn]; omega
theorem zig_eq2 {n : Int} (h : I64 n) (hn : ¬ n < 0) : IntKind.u64.wrap (2 * IntKind.u64.wrap n) = zigV n := by
  unfold I64 at h
  rw [wrap64, wrap64]
  unfold zigV; rw [if_neg hn]; omega
theorem wfI64 {n : Int} (h : (Lit.int .i64 n).wf = true) : I64 n := by
  simp [Lit.wf, IntKind.min, IntKind.max, IntKind.signed, IntKind.bits] at h
  unfold I64; omega
end Go.Proofs.Ytmkgcdgpokidjaa
