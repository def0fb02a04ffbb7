/- Chapter 4: numbers. -/
import Derived.Test.YtplfogbgobkcfaaSumQ
set_option linter.unusedVariables false
namespace Go.Proofs.Ytplfogbgobkcfaa
open Go.Eng

/-- A number of 64 digits. -/
def toB (x : Int) : BitVec 64 := BitVec.ofInt 64 x
theorem toB_nat (v : BitVec 64) : toB (v.toNat : Int) = v := by
  unfold toB
  rw [BitVec.ofInt_natCast, BitVec.ofNat_toNat, BitVec.setWidth_eq]
theorem wrap64 (n : Int) : IntKind.u64.wrap n = n % 18446744073709551616 := by
  simp [IntKind.wrap, IntKind.signed, IntKind.bits]
theorem toB_mod (n : Int) : toB (n % 18446744073709551616) = toB n := by
  apply BitVec.eq_of_toNat_eq
  simp only [toB, BitVec.toNat_ofInt]
  congr 1
  exact Int.emod_emod_of_dvd n (Int.dvd_refl _)
theorem toB_wrap (n : Int) : toB (IntKind.u64.wrap n) = toB n := by rw [wrap64, toB_mod]
theorem toB_xor (x y : Int) : toB (xorI .u64 x y) = toB x ^^^ toB y := by
  show toB (IntKind.u64.wrap ((BitVec.ofInt 64 x ^^^ BitVec.ofInt 64 y).toNat : Int)) = _
  rw [toB_wrap, toB_nat]; rfl
theorem toB_mul (x y : Int) : toB (x * y) = toB x * toB y := BitVec.ofInt_mul ..
theorem wrap64_range (n : Int) : 0 ≤ IntKind.u64.wrap n ∧ IntKind.u64.wrap n < 18446744073709551616 := by rw [wrap64]; omega
theorem xor_range (x y : Int) : 0 ≤ xorI .u64 x y ∧ xorI .u64 x y < 18446744073709551616 := wrap64_range _
theorem toB_inj {x y : Int} (hx : 0 ≤ x ∧ x < 18446744073709551616) (hy : 0 ≤ y ∧ y < 18446744073709551616) (h : toB x = toB y) : x = y := by
  have := congrArg BitVec.toNat h
  simp only [toB, BitVec.toNat_ofInt] at this
  omega
theorem toB_shr {x : Int} (hx : 0 ≤ x ∧ x < 18446744073709551616) : toB (shrI .u64 x 29) = toB x >>> 29 := by
  apply BitVec.eq_of_toNat_eq
  simp only [toB, BitVec.toNat_ofInt, BitVec.toNat_ushiftRight]
  show ((x.fdiv (2 ^ 29)) % _).toNat = _
  rw [Nat.shiftRight_eq_div_pow, Int.fdiv_eq_ediv_of_nonneg _ (by decide)]
  omega

def mixB (x b : BitVec 64) : BitVec 64 := (x ^^^ b) * 1099511628211#64
def endB (x : BitVec 64) : BitVec 64 := x ^^^ (x >>> 29)
theorem mixB_inj {x y b : BitVec 64} (h : mixB x b = mixB y b) : x = y := by
  have h1 : mixB x b * 14886173955864302971#64 = mixB y b * 14886173955864302971#64 := by rw [h]
  unfold mixB at h1
  rw [BitVec.mul_assoc, BitVec.mul_assoc, show (1099511628211#64 * 14886173955864302971#64 : BitVec 64) = 1#64 by decide, BitVec.mul_one, BitVec.mul_one] at h1
  have := congrArg (· ^^^ b) h1
  simpa [BitVec.xor_assoc] using this
theorem endB_inv (x : BitVec 64) : endB x ^^^ (endB x >>> 29) ^^^ (endB x >>> 58) = x := by
  unfold endB
  have e1 : x >>> 29 >>> 29 = x >>> 58 := by rw [← BitVec.shiftRight_add]
  have e2 : x >>> 29 >>> 58 = 0#64 := by
    rw [← BitVec.shiftRight_add]
    exact BitVec.ushiftRight_eq_zero (by decide)
  rw [BitVec.ushiftRight_xor_distrib, BitVec.ushiftRight_xor_distrib, e1, e2, BitVec.xor_zero]
  rw [show x ^^^ x >>> 29 ^^^ (x >>> 29 ^^^ x >>> 58) ^^^ x >>> 58 = x ^^^ ((x >>> 29 ^^^ x >>> 29) ^^^ (x >>> 58 ^^^ x >>> 58)) by ac_rfl]
  simp
theorem endB_inj {x y : BitVec 64} (h : endB x = endB y) : x = y := by rw [← endB_inv x, ← endB_inv y, h]

theorem mix_range (x b : Int) : 0 ≤ mixV x b ∧ mixV x b < 18446744073709551616 := wrap64_range _
theorem toB_mix (x b : Int) : toB (mixV x b) = mixB (toB x) (toB b) := by
  unfold mixV mixB
  rw [toB_wrap, toB_mul, toB_xor, toB_wrap]; rfl
theorem mixes_range : ∀ (bs : List Int) (x : Int), 0 ≤ x ∧ x < 18446744073709551616 → 0 ≤ bs.foldl mixV x ∧ bs.foldl mixV x < 18446744073709551616
  | [], _, h => h
  | b :: bs, x, _ => mixes_range bs _ (mix_range x b)
theorem mixes_inj : ∀ (bs : List Int) (x y : Int), toB (bs.foldl mixV x) = toB (bs.foldl mixV y) → toB x = toB y
  | [], _, _, h => h
  | b :: bs, x, y, h => by
    have := mixes_inj bs (mixV x b) (mixV y b) h
    rw [toB_mix, toB_mix] at this
    exact mixB_inj this

/-- Of the same bytes another link ahead gives another one. -/
theorem chainV_inj {a b : Int} {bs : List Int} (ha : 0 ≤ a ∧ a < 18446744073709551616) (hb : 0 ≤ b ∧ b < 18446744073709551616) (h : chainV a bs = chainV b bs) : a = b := by
  unfold chainV at h
  dsimp only at h
  have h := congrArg toB h
  rw [toB_xor, toB_xor, toB_shr (mixes_range bs _ (xor_range _ _)), toB_shr (mixes_range bs _ (xor_range _ _))] at h
  have h := mixes_inj bs _ _ (endB_inj h)
  rw [toB_xor, toB_xor] at h
  have := congrArg (· ^^^ toB 1469598103934665603) h
  simp only [BitVec.xor_assoc, BitVec.xor_self, BitVec.xor_zero] at this
  exact toB_inj ha hb this
end Go.Proofs.Ytplfogbgobkcfaa
