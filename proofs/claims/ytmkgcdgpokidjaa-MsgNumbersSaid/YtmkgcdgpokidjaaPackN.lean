/- Chapter 3: the number that bytes begin with; so many numbers. -/
import Derived.Test.YtmkgcdgpokidjaaPackM
set_option linter.unusedVariables false
namespace Go.Proofs.Ytmkgcdgpokidjaa
open Go.Eng

/-- The number that groups begin, so far; how many groups; none: it does not end, or not this way. -/
def firstG : Nat → Nat → List Int → Option (Nat × Nat)
  | _, _, [] => none
  | i, z, c :: l => if 10 ≤ i then none else if 128 ≤ c then firstG (i + 1) (z + (c.toNat % 128) * 128 ^ i) l
      else if (c = 0 ∧ 0 < i) ∨ (i = 9 ∧ 1 < c) then none else some (z + c.toNat * 128 ^ i, i + 1)
def zagV (z : Nat) : Int := if z % 2 = 1 then -((z / 2 : Nat) : Int) - 1 else ((z / 2 : Nat) : Int)
/-- The number that bytes begin with, and how many it has. -/
def firstV (bs : List Int) : Option (Int × Nat) := (firstG 0 0 bs).map fun x => (zagV x.1, x.2)
def Bytes (bs : List Int) : Prop := ∀ b ∈ bs, 0 ≤ b ∧ b < 256
theorem Bytes.drop {bs : List Int} (h : Bytes bs) (k : Nat) : Bytes (bs.drop k) := fun b hb => h b (List.mem_of_mem_drop hb)
theorem Bytes.take {bs : List Int} (h : Bytes bs) (k : Nat) : Bytes (bs.take k) := fun b hb => h b (List.mem_of_mem_take hb)

theorem zag_zig {n : Int} : zagV (zigV n).toNat = n := by
  unfold zagV zigV
  split <;> split <;> omega
theorem zig_zag (z : Nat) : (zigV (zagV z)).toNat = z := by
  unfold zagV zigV
  split <;> split <;> omega
theorem zag_I64 {z : Nat} (h : z < 18446744073709551616) : I64 (zagV z) := by
  unfold zagV I64
  split <;> omega
theorem one3_zag (z : Nat) : one3 (zagV z) = grp z := by unfold one3; rw [zig_zag]

/-- What was put is read. -/
theorem firstG_grp : ∀ (m i z : Nat) (rest : List Int), i ≤ 9 → m * 128 ^ i < 18446744073709551616 → (i = 0 ∨ 0 < m) → firstG i z (grp m ++ rest) = some (z + m * 128 ^ i, i + (grp m).length) := by
  intro m
  induction m using Nat.strongRecOn with
  | _ m ih =>
    intro i z rest hi hm h0
    by_cases hz : m < 128
    · rw [grp_lt hz]
      show firstG i z ((m : Int) :: rest) = _
      unfold firstG
      rw [if_neg (by omega), if_neg (by omega), if_neg ?_]
      · simp
      · rintro (⟨h1, h2⟩ | ⟨rfl, h2⟩)
        · omega
        · have : (128 : Nat) ^ 9 = 9223372036854775808 := by decide
          rw [this] at hm
          omega
    · rw [grp_ge (by omega)]
      show firstG i z (((m % 128 + 128 : Nat) : Int) :: (grp (m / 128) ++ rest)) = _
      unfold firstG
      have hi9 : i < 9 := by
        rcases Nat.lt_or_ge i 9 with h | h
        · exact h
        · have : i = 9 := by omega
          subst this
          have : (128 : Nat) ^ 9 = 9223372036854775808 := by decide
          rw [this] at hm
          omega
      have hp : (128 : Nat) ^ (i + 1) = 128 * 128 ^ i := by rw [Nat.pow_succ, Nat.mul_comm]
      have hle : m / 128 * 128 ≤ m := Nat.div_mul_le_self m 128
      have hmul : m / 128 * 128 ^ (i + 1) ≤ m * 128 ^ i := by
        rw [hp, ← Nat.mul_assoc]
        exact Nat.mul_le_mul_right _ hle
      rw [if_neg (by omega), if_pos (by omega)]
      rw [ih (m / 128) (by omega) (i + 1) _ rest (by omega) (by omega) (.inr (by omega))]
      have e1 : (((m % 128 + 128 : Nat) : Int).toNat % 128) = m % 128 := by omega
      rw [e1, hp]
      congr 2
      · rw [Nat.add_assoc]
        congr 1
        rw [← Nat.mul_assoc, ← Nat.add_mul]
        congr 1
        omega
      · simp only [List.length_cons]; omega
theorem firstV_one {n : Int} (h : I64 n) (rest : List Int) : firstV (one3 n ++ rest) = some (n, (one3 n).length) := by
  have hz := zig_range h
  unfold firstV one3
  rw [firstG_grp _ 0 0 rest (by omega) (by omega) (.inl rfl)]
  simp only [Option.map_some]
  rw [show 0 + (zigV n).toNat * 128 ^ 0 = (zigV n).toNat by simp, zag_zig, Nat.zero_add]

theorem pow128 (i : Nat) (h : i ≤ 9) : 128 ^ i = 1 ∨ 128 ^ i = 128 ∨ 128 ^ i = 16384 ∨ 128 ^ i = 2097152 ∨ 128 ^ i = 268435456 ∨ 128 ^ i = 34359738368 ∨ 128 ^ i = 4398046511104 ∨ 128 ^ i = 562949953421312 ∨ 128 ^ i = 72057594037927936 ∨ (i = 9 ∧ 128 ^ i = 9223372036854775808) := by
  have : i = 0 ∨ i = 1 ∨ i = 2 ∨ i = 3 ∨ i = 4 ∨ i = 5 ∨ i = 6 ∨ i = 7 ∨ i = 8 ∨ i = 9 := by omega
  rcases this with rfl | rfl | rfl | rfl | rfl | rfl | rfl | rfl | rfl | rfl <;> decide

theorem z_inv {i m d : Nat} (hi : i ≤ 8) (hm : m * 128 ^ (i + 1) < 18446744073709551616) (hd : d < 128) : (d + 128 * m) * 128 ^ i < 18446744073709551616 := by
  have hK : 128 ^ (i + 1) ∣ 18446744073709551616 := by
    rw [show (128 : Nat) = 2 ^ 7 by decide, ← Nat.pow_mul, show 18446744073709551616 = 2 ^ 64 by decide]
    exact Nat.pow_dvd_pow 2 (by omega)
  obtain ⟨q, hq⟩ := hK
  have hp : (128 : Nat) ^ (i + 1) = 128 * 128 ^ i := by rw [Nat.pow_succ, Nat.mul_comm]
  have hpos : 0 < 128 ^ i := Nat.pow_pos (by decide)
  rw [hq, Nat.mul_comm] at hm
  have hmq : m < q := Nat.lt_of_mul_lt_mul_left hm
  rw [hq, hp]
  calc (d + 128 * m) * 128 ^ i < (128 * (m + 1)) * 128 ^ i := Nat.mul_lt_mul_of_pos_right (by omega) hpos
    _ = 128 * 128 ^ i * (m + 1) := by rw [Nat.mul_assoc, Nat.mul_assoc, Nat.mul_comm (m + 1)]
    _ ≤ 128 * 128 ^ i * q := Nat.mul_le_mul_left _ hmq
/-- What is read was put so. -/
theorem firstG_inv : ∀ (bs : List Int) (i z y k : Nat), Bytes bs → firstG i z bs = some (y, k) →
    i ≤ 9 ∧ ∃ m, y = z + m * 128 ^ i ∧ bs.take (k - i) = grp m ∧ k = i + (grp m).length ∧ m * 128 ^ i < 18446744073709551616 ∧ (i = 0 ∨ 0 < m) := by
  intro bs
  induction bs with
  | nil => intro i z y k _ h; cases h
  | cons c l ih =>
    intro i z y k hb h
    have hc := hb c (by simp)
    unfold firstG at h
    split at h
    · cases h
    · rename_i h10
      split at h
      · rename_i h128
        obtain ⟨hi, m, hy, ht, hk, hm, hpos⟩ := ih (i + 1) _ y k (fun b hb' => hb b (by simp [hb'])) h
        have hm0 : 0 < m := by omega
        have hp : (128 : Nat) ^ (i + 1) = 128 * 128 ^ i := by rw [Nat.pow_succ, Nat.mul_comm]
        have hcn : c.toNat % 128 + 128 = c.toNat := by omega
        have hg : grp (c.toNat % 128 + 128 * m) = c :: grp m := by
          rw [grp_ge (by omega)]
          rw [show (c.toNat % 128 + 128 * m) / 128 = m by omega, show (c.toNat % 128 + 128 * m) % 128 = c.toNat % 128 by omega, hcn]
          congr 1
          omega
        refine ⟨by omega, c.toNat % 128 + 128 * m, ?_, ?_, ?_, ?_, .inr (by omega)⟩
        · rw [hy, hp, Nat.add_mul, ← Nat.mul_assoc, Nat.mul_comm m 128, Nat.add_assoc]
        · rw [hg, show k - i = (k - (i + 1)) + 1 by omega, List.take_succ_cons, ht]
        · rw [hg, hk]; simp; omega
        · exact z_inv (by omega) hm (by omega)
      · rename_i h128
        split at h
        · cases h
        · rename_i hbad
          simp only [Option.some.injEq, Prod.mk.injEq] at h
          obtain ⟨rfl, rfl⟩ := h
          have hlt : c.toNat < 128 := by omega
          refine ⟨by omega, c.toNat, rfl, ?_, ?_, ?_, ?_⟩
          · rw [grp_lt hlt, show i + 1 - i = 1 by omega]
            simp; omega
          · rw [grp_lt hlt]; rfl
          · rcases pow128 i (by omega) with e | e | e | e | e | e | e | e | e | ⟨e9, e⟩
            all_goals (simp only [e]; clear ih hb; omega)
          · by_cases h0 : i = 0
            · exact .inl h0
            · right
              have : c ≠ 0 := fun hc0 => hbad (.inl ⟨hc0, by omega⟩)
              omega
theorem firstV_inv {bs : List Int} {v : Int} {k : Nat} (hb : Bytes bs) (h : firstV bs = some (v, k)) : I64 v ∧ bs.take k = one3 v ∧ k = (one3 v).length ∧ k ≤ bs.length ∧ 0 < k := by
  unfold firstV at h
  rw [Option.map_eq_some_iff] at h
  obtain ⟨⟨y, k'⟩, h1, h2⟩ := h
  simp only [Prod.mk.injEq] at h2
  obtain ⟨rfl, rfl⟩ := h2
  obtain ⟨_, m, hy, ht, hk, hm, _⟩ := firstG_inv bs 0 0 y k' hb h1
  have hym : y = m := by simpa using hy
  subst hym
  rw [Nat.sub_zero] at ht
  rw [Nat.zero_add] at hk
  have hlen := congrArg List.length ht
  rw [List.length_take] at hlen
  have hne : (grp y).length ≠ 0 := fun h0 => grp_ne y (List.length_eq_zero_iff.1 h0)
  rw [one3_zag]
  exact ⟨zag_I64 (by simpa using hm), ht, hk, by omega, by omega⟩

/-! ### so many numbers -/
def getN : Nat → List Int → Option (List Int)
  | 0, [] => some []
  | 0, _ :: _ => none
  | n + 1, bs => match firstV bs with
    | none => none
    | some (v, k) => (getN n (bs.drop k)).map (v :: ·)
def getV (bs : List Int) (n : Int) : Option (List Int) := if n < 0 then none else getN n.toNat bs
theorem getN_succ_none {n : Nat} {bs : List Int} (h : firstV bs = none) : getN (n + 1) bs = none := by unfold getN; rw [h]
theorem getN_succ_some {n : Nat} {bs : List Int} {v : Int} {k : Nat} (h : firstV bs = some (v, k)) : getN (n + 1) bs = (getN n (bs.drop k)).map (v :: ·) := by
  conv => lhs; unfold getN
  rw [h]
theorem getN_put : ∀ (l : List Int) (rest : List Int), (∀ n ∈ l, I64 n) → getN l.length (putV l) = some l
  | [], _, _ => rfl
  | n :: l, rest, h => by
    have h1 := firstV_one (h n (by simp)) (putV l)
    rw [← putV_cons] at h1
    rw [List.length_cons, getN_succ_some h1, putV_cons, List.drop_append_of_le_length (Nat.le_refl _), List.drop_length, List.nil_append, getN_put l rest fun x hx => h x (by simp [hx])]
    rfl
/-- What is had of bytes was put so. -/
theorem getN_inv : ∀ (n : Nat) (bs l : List Int), Bytes bs → getN n bs = some l → l.length = n ∧ bs = putV l ∧ ∀ x ∈ l, I64 x
  | 0, [], l, _, h => by simp only [getN, Option.some.injEq] at h; subst h; exact ⟨rfl, rfl, fun x hx => by cases hx⟩
  | 0, _ :: _, l, _, h => by cases h
  | n + 1, bs, l, hb, h => by
    unfold getN at h
    split at h
    · cases h
    · rename_i v k hv
      rw [Option.map_eq_some_iff] at h
      obtain ⟨l', h1, rfl⟩ := h
      obtain ⟨a1, a2, a3⟩ := getN_inv n _ l' (hb.drop k) h1
      obtain ⟨b1, b2, b3, b4, b5⟩ := firstV_inv hb hv
      refine ⟨by simp [a1], ?_, fun x hx => ?_⟩
      · rw [putV_cons, ← a2, ← b2, List.take_append_drop]
      · rcases List.mem_cons.1 hx with rfl | hx
        · exact b1
        · exact a3 x hx
end Go.Proofs.Ytmkgcdgpokidjaa
