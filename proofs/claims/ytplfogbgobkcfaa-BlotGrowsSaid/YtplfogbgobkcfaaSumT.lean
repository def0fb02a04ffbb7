/- Chapter 4: a sum's low half; one byte turned turns the sum. -/
import Derived.Test.YtplfogbgobkcfaaSumR
set_option linter.unusedVariables false
namespace Go.Proofs.Ytplfogbgobkcfaa
open Go.Eng

theorem wrap32 (n : Int) : IntKind.u32.wrap n = n % 4294967296 := by
  simp [IntKind.wrap, IntKind.signed, IntKind.bits]
theorem and32 {s : Int} (h : 0 ≤ s ∧ s < 4294967296) : andI .u32 s 65535 = s % 65536 := by
  show IntKind.u32.wrap ((BitVec.ofInt 32 s &&& BitVec.ofInt 32 65535).toNat : Int) = _
  have e : (BitVec.ofInt 32 s &&& BitVec.ofInt 32 65535).toNat = s.toNat % 65536 := by
    rw [BitVec.toNat_and, BitVec.toNat_ofInt, show (BitVec.ofInt 32 65535).toNat = 2 ^ 16 - 1 from rfl, Nat.and_two_pow_sub_one_eq_mod]
    have : (s % ((2 ^ 32 : Nat) : Int)).toNat = s.toNat := by omega
    rw [this]
  rw [e, wrap32]
  omega
theorem shr32 {s : Int} (_h : 0 ≤ s) : shrI .u32 s 16 = s / 65536 := by
  show s.fdiv (2 ^ 16) = _
  rw [Int.fdiv_eq_ediv_of_nonneg _ (by decide)]
  rfl
theorem shl32 {s : Int} (h : 0 ≤ s ∧ s < 65536) : shlI .u32 s 16 = s * 65536 := by
  show IntKind.u32.wrap (s * 2 ^ 16) = _
  rw [wrap32]
  omega
theorem or32 {a b : Int} (ha : 0 ≤ a ∧ a < 65536) (hb : 0 ≤ b ∧ b < 65536) : orI .u32 (a * 65536) b = a * 65536 + b := by
  show IntKind.u32.wrap ((BitVec.ofInt 32 (a * 65536) ||| BitVec.ofInt 32 b).toNat : Int) = _
  have e : (BitVec.ofInt 32 (a * 65536) ||| BitVec.ofInt 32 b).toNat = 65536 * a.toNat + b.toNat := by
    rw [BitVec.toNat_or, BitVec.toNat_ofInt, BitVec.toNat_ofInt]
    have e1 : ((a * 65536) % ((2 ^ 32 : Nat) : Int)).toNat = 2 ^ 16 * a.toNat := by omega
    have e2 : (b % ((2 ^ 32 : Nat) : Int)).toNat = b.toNat := by omega
    rw [e1, e2, ← Nat.two_pow_add_eq_or_of_lt (by omega)]
  rw [e, wrap32]
  omega

/-- A sum whose low half is 'lo'. -/
def Low (s lo : Int) : Prop := 0 ≤ lo ∧ lo < 65521 ∧ ∃ hi : Int, 0 ≤ hi ∧ hi < 65521 ∧ s = hi * 65536 + lo
theorem low_next {s lo b : Int} (h : Low s lo) (hb : 0 ≤ b ∧ b < 256) : Low (nextV s b) ((lo + b + 1) % 65521) := by
  obtain ⟨h1, h2, hi, h3, h4, rfl⟩ := h
  have hl : (IntKind.u32.wrap (IntKind.u32.wrap (andI .u32 (hi * 65536 + lo) 65535 + IntKind.u32.wrap b) + 1)).tmod 65521 = (lo + b + 1) % 65521 := by
    rw [and32 (by omega), wrap32, wrap32, wrap32, Int.tmod_eq_emod_of_nonneg (by omega)]
    omega
  have hh : (IntKind.u32.wrap (shrI .u32 (hi * 65536 + lo) 16 + (lo + b + 1) % 65521)).tmod 65521 = (hi + (lo + b + 1) % 65521) % 65521 := by
    rw [shr32 (by omega), wrap32, Int.tmod_eq_emod_of_nonneg (by omega)]
    omega
  unfold nextV
  rw [hl, hh, shl32 (by omega), or32 (by omega) (by omega)]
  exact ⟨by omega, by omega, _, by omega, by omega, rfl⟩
/-- What the bytes add. -/
def adds (bs : List Int) : Int := bs.foldr (fun b n => b + 1 + n) 0
theorem adds_append (a b : List Int) : adds (a ++ b) = adds a + adds b := by
  induction a with
  | nil => simp [adds]
  | cons x a ih => simp only [adds, List.cons_append, List.foldr_cons] at ih ⊢; rw [ih]; omega
theorem low_fold : ∀ (bs : List Int) (s lo : Int), Low s lo → (∀ b ∈ bs, 0 ≤ b ∧ b < 256) → Low (bs.foldl nextV s) ((lo + adds bs) % 65521)
  | [], s, lo, h, _ => by
    have : (lo + adds []) % 65521 = lo := by
      have := h.1; have := h.2.1
      show (lo + 0) % 65521 = lo
      omega
    rw [this]; exact h
  | b :: bs, s, lo, h, hb => by
    have := low_fold bs _ _ (low_next h (hb b (by simp))) fun x hx => hb x (by simp [hx])
    have e : (lo + adds (b :: bs)) % 65521 = ((lo + b + 1) % 65521 + adds bs) % 65521 := by
      show (lo + (b + 1 + adds bs)) % 65521 = _
      omega
    rw [e]; exact this
theorem low_zero : Low 0 0 := ⟨by omega, by omega, 0, by omega, by omega, by omega⟩
theorem low_inj {s l m : Int} (h : Low s l) (k : Low s m) : l = m := by
  obtain ⟨h1, h2, hi, h3, h4, h5⟩ := h
  obtain ⟨k1, k2, hi', k3, k4, k5⟩ := k
  omega

theorem xor8_range (x y : Int) : 0 ≤ xorI .u8 x y ∧ xorI .u8 x y < 256 := by
  show 0 ≤ IntKind.u8.wrap _ ∧ IntKind.u8.wrap _ < 256
  simp [IntKind.wrap, IntKind.signed, IntKind.bits]
  omega
theorem xor8_ne {x y : Int} (hx : 0 ≤ x ∧ x < 256) (hy : 0 ≤ y ∧ y < 256) (h0 : y ≠ 0) : xorI .u8 x y ≠ x := by
  intro h
  have h : IntKind.u8.wrap ((BitVec.ofInt 8 x ^^^ BitVec.ofInt 8 y).toNat : Int) = x := h
  have e : ((BitVec.ofInt 8 x ^^^ BitVec.ofInt 8 y).toNat : Int) = x := by
    have := (BitVec.ofInt 8 x ^^^ BitVec.ofInt 8 y).isLt
    simp only [IntKind.wrap, IntKind.signed, IntKind.bits, Bool.false_and, Bool.false_eq_true, if_false] at h
    omega
  have e2 : BitVec.ofInt 8 x ^^^ BitVec.ofInt 8 y = BitVec.ofInt 8 x := by
    apply BitVec.eq_of_toNat_eq
    rw [BitVec.toNat_ofInt]
    omega
  have e3 := congrArg (BitVec.ofInt 8 x ^^^ ·) e2
  simp only [← BitVec.xor_assoc, BitVec.xor_self, BitVec.zero_xor] at e3
  have e4 := congrArg BitVec.toNat e3
  rw [BitVec.toNat_ofInt] at e4
  simp at e4
  omega

/-- One byte turned turns the sum. -/
theorem turned_ne {bs : List Int} (hb : ∀ b ∈ bs, 0 ≤ b ∧ b < 256) {j : Nat} {x y : Int} (hj : bs[j]? = some x) (hy : 0 ≤ y ∧ y < 256) (h0 : y ≠ 0) : (bs.set j (xorI .u8 x y)).foldl nextV 0 ≠ bs.foldl nextV 0 := by
  have hx := hb x (List.mem_of_getElem? hj)
  have hr := xor8_range x y
  have hne := xor8_ne hx hy h0
  have hlt : j < bs.length := (List.getElem?_eq_some_iff.1 hj).1
  have hset : bs.set j (xorI .u8 x y) = bs.take j ++ (xorI .u8 x y :: bs.drop (j + 1)) := by rw [List.set_eq_take_append_cons_drop, if_pos hlt]
  have hbs : bs = bs.take j ++ (x :: bs.drop (j + 1)) := by
    have : bs[j] = x := (List.getElem?_eq_some_iff.1 hj).2
    conv => lhs; rw [← List.take_append_drop j bs, List.drop_eq_getElem_cons hlt, this]
  intro h
  have l1 := low_fold (bs.set j (xorI .u8 x y)) 0 0 low_zero fun b hb' => by
    rw [hset] at hb'
    rcases List.mem_append.1 hb' with hb' | hb'
    · exact hb b (List.mem_of_mem_take hb')
    · rcases List.mem_cons.1 hb' with rfl | hb'
      · exact hr
      · exact hb b (List.mem_of_mem_drop hb')
  have l2 := low_fold bs 0 0 low_zero hb
  rw [h] at l1
  have := low_inj l1 l2
  have e1 : adds (bs.set j (xorI .u8 x y)) = adds (bs.take j) + (xorI .u8 x y + 1 + adds (bs.drop (j + 1))) := by rw [hset, adds_append]; rfl
  have e2 : adds bs = adds (bs.take j) + (x + 1 + adds (bs.drop (j + 1))) := by
    conv => lhs; rw [hbs]
    rw [adds_append]; rfl
  rw [e1, e2] at this
  omega
theorem nought_ne {bs : List Int} (hb : ∀ b ∈ bs, 0 ≤ b ∧ b < 256) : ((0 : Int) :: bs).foldl nextV 0 ≠ bs.foldl nextV 0 := by
  intro h
  have l1 := low_fold ((0 : Int) :: bs) 0 0 low_zero fun b hb' => by
    rcases List.mem_cons.1 hb' with rfl | hb'
    · omega
    · exact hb b hb'
  have l2 := low_fold bs 0 0 low_zero hb
  rw [h] at l1
  have := low_inj l1 l2
  have e : adds ((0 : Int) :: bs) = 0 + 1 + adds bs := rfl
  rw [e] at this
  omega
end Go.Proofs.Ytplfogbgobkcfaa
