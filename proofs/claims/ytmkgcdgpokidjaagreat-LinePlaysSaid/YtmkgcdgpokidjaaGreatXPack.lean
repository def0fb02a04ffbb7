import Derived.Test.YtmkgcdgpokidjaaGreatBaseA
set_option linter.unusedVariables false
/- Chapter 3: numbers as bytes. -/
namespace Go.Proofs.YtmkgcdgpokidjaaGreat
open Go.Eng

/-- A number as one that is not negative. -/
def zigV (n : Int) : Int := if n < 0 then -2 * n - 1 else 2 * n
def I64 (n : Int) : Prop := -9223372036854775808 ≤ n ∧ n ≤ 9223372036854775807
theorem zig_range {n : Int} (h : I64 n) : 0 ≤ zigV n ∧ zigV n < 18446744073709551616 := by
  unfold I64 at h; unfold zigV; split <;> omega
theorem zig_inj {n m : Int} (h : zigV n = zigV m) : n = m := by
  unfold zigV at h; split at h <;> split at h <;> omega
/-- Groups of seven digits, the lowest first. -/
def grp (z : Nat) : List Int := if z < 128 then [(z : Int)] else ((z % 128 + 128 : Nat) : Int) :: grp (z / 128)
termination_by z
decreasing_by omega
theorem grp_lt {z : Nat} (h : z < 128) : grp z = [(z : Int)] := by unfold grp; rw [if_pos h]
theorem grp_ge {z : Nat} (h : 128 ≤ z) : grp z = ((z % 128 + 128 : Nat) : Int) :: grp (z / 128) := by rw [grp, if_neg (by omega)]
theorem grp_len : ∀ (k z : Nat), 0 < k → z < 128 ^ k → (grp z).length ≤ k
  | 0, _, h, _ => by omega
  | k + 1, z, _, h => by
    by_cases hz : z < 128
    · rw [grp_lt hz]; simp
    · rw [grp_ge (by omega)]
      have hk : 0 < k := by
        rcases Nat.eq_zero_or_pos k with h0 | h0
        · subst h0; simp at h; omega
        · exact h0
      have := grp_len k (z / 128) hk (by rw [Nat.pow_succ] at h; exact Nat.div_lt_of_lt_mul (by rw [Nat.mul_comm]; exact h))
      simp only [List.length_cons]; omega
theorem grp_byte : ∀ (z : Nat), ∀ b ∈ grp z, 0 ≤ b ∧ b < 256 := by
  intro z
  induction z using Nat.strongRecOn with
  | _ z ih =>
    intro b hb
    by_cases hz : z < 128
    · rw [grp_lt hz] at hb; rw [List.mem_singleton] at hb; omega
    · rw [grp_ge (by omega)] at hb
      rcases List.mem_cons.1 hb with rfl | hb
      · omega
      · exact ih (z / 128) (by omega) b hb
theorem grp_ne (z : Nat) : grp z ≠ [] := by
  by_cases hz : z < 128
  · rw [grp_lt hz]; simp
  · rw [grp_ge (by omega)]; simp
/-- A number's bytes; numbers' bytes. -/
def one3 (n : Int) : List Int := grp (zigV n).toNat
def putV (l : List Int) : List Int := l.flatMap one3
theorem one3_len {n : Int} (h : I64 n) : (one3 n).length ≤ 10 := by
  have := zig_range h
  exact grp_len 10 _ (by decide) (by omega)
theorem putV_cons (n : Int) (l : List Int) : putV (n :: l) = one3 n ++ putV l := rfl
theorem putV_append (a b : List Int) : putV (a ++ b) = putV a ++ putV b := by simp [putV]
theorem putV_len : ∀ (l : List Int), (∀ n ∈ l, I64 n) → (putV l).length ≤ 10 * l.length
  | [], _ => by simp [putV]
  | n :: l, h => by
    have h1 := one3_len (h n (by simp))
    have h2 := putV_len l fun x hx => h x (by simp [hx])
    rw [putV_cons, List.length_append, List.length_cons]; omega
theorem putV_byte (l : List Int) : ∀ b ∈ putV l, 0 ≤ b ∧ b < 256 := by
  intro b hb
  obtain ⟨n, _, hb⟩ := List.mem_flatMap.1 hb
  exact grp_byte _ b hb
theorem putV_take {l : List Int} {i : Nat} {x : Int} (hx : l[i]? = some x) : putV (l.take (i + 1)) = putV (l.take i) ++ one3 x := by
  have : l.take (i + 1) = l.take i ++ [x] := by rw [List.take_add_one, hx]; rfl
  rw [this, putV_append]
  simp [putV]
/-! ### words of the machine -/
theorem wrap8 (n : Int) : IntKind.u8.wrap n = n % 256 := by simp [IntKind.wrap, IntKind.signed, IntKind.bits]
set_option maxRecDepth 10000 in
theorem or8 (z : Nat) : orI .u8 (IntKind.u8.wrap (z : Int)) 128 = ((z % 128 + 128 : Nat) : Int) := by
  show IntKind.u8.wrap ((BitVec.ofInt 8 (IntKind.u8.wrap (z : Int)) ||| BitVec.ofInt 8 128).toNat : Int) = _
  have key : ∀ x : Fin 256, ((BitVec.ofNat 8 x.val ||| 128#8).toNat : Nat) = x.val % 128 + 128 := by decide
  have e : BitVec.ofInt 8 (IntKind.u8.wrap (z : Int)) = BitVec.ofNat 8 (z % 256) := by
    rw [wrap8, show ((z : Int) % 256) = ((z % 256 : Nat) : Int) by omega, BitVec.ofInt_natCast]
  rw [e, show BitVec.ofInt 8 128 = 128#8 from rfl, key ⟨z % 256, by omega⟩, wrap8]
  dsimp only
  omega
theorem shr7 (z : Nat) : shrI .u64 (z : Int) 7 = ((z / 128 : Nat) : Int) := by
  show (z : Int).fdiv (2 ^ 7) = _
  rw [Int.fdiv_eq_ediv_of_nonneg _ (by decide)]
  omega
theorem xor_zero64 {x : Int} (h : 0 ≤ x ∧ x < 18446744073709551616) : xorI .u64 x 0 = x := by
  apply toB_inj (xor_range _ _) h
  rw [toB_xor, show toB 0 = 0#64 from rfl, BitVec.xor_zero]
theorem xor_ones64 {x : Int} (h : 0 ≤ x ∧ x < 18446744073709551616) : xorI .u64 x 18446744073709551615 = 18446744073709551615 - x := by
  apply toB_inj (xor_range _ _) (by omega)
  rw [toB_xor, show toB 18446744073709551615 = BitVec.allOnes 64 by decide, BitVec.xor_allOnes]
  apply BitVec.eq_of_toNat_eq
  rw [BitVec.toNat_not]
  simp only [toB, BitVec.toNat_ofInt]
  omega
theorem turned_eq {n : Int} (h : I64 n) : xorI .u64 (shlI .u64 (IntKind.u64.wrap n) 1) (IntKind.u64.wrap (shrI .i64 n 63)) = zigV n := by
  unfold I64 at h
  have e1 : shlI .u64 (IntKind.u64.wrap n) 1 = (2 * n) % 18446744073709551616 := by
    show IntKind.u64.wrap (IntKind.u64.wrap n * 2 ^ 1) = _
    rw [wrap64, wrap64]; omega
  have e2 : shrI .i64 n 63 = if n < 0 then -1 else 0 := by
    show n.fdiv (2 ^ 63) = _
    rw [Int.fdiv_eq_ediv_of_nonneg _ (by decide)]
    split <;> omega
  rw [e1, e2]
  unfold zigV
  split
  · rw [show IntKind.u64.wrap (-1) = 18446744073709551615 by decide, xor_ones64 (by omega)]; omega
  · rw [show IntKind.u64.wrap 0 = 0 by decide, xor_zero64 (by omega)]; omega
theorem zig_eq1 {n : Int} (h : I64 n) (hn : n < 0) : IntKind.u64.wrap (IntKind.u64.wrap (2 * IntKind.u64.wrap (IntKind.i64.wrap (0 - IntKind.i64.wrap (n + 1)))) + 1) = zigV n := by
  unfold I64 at h
  rw [w64 (n := n + 1) (by omega) (by omega), w64 (by omega) (by omega), wrap64, wrap64, wrap64]
  unfold zigV; rw [if_pos hn]; omega
theorem zig_eq2 {n : Int} (h : I64 n) (hn : ¬ n < 0) : IntKind.u64.wrap (2 * IntKind.u64.wrap n) = zigV n := by
  unfold I64 at h
  rw [wrap64, wrap64]
  unfold zigV; rw [if_neg hn]; omega
theorem wfI64 {n : Int} (h : (Lit.int .i64 n).wf = true) : I64 n := by
  simp [Lit.wf, IntKind.min, IntKind.max, IntKind.signed, IntKind.bits] at h
  unfold I64; omega
end Go.Proofs.YtmkgcdgpokidjaaGreat

/- Chapter 3: the number that bytes begin with; so many numbers. -/
namespace Go.Proofs.YtmkgcdgpokidjaaGreat
open Go.Eng

/-- The number that groups begin, so far; how many groups; none: it does not end, or not this way. -/
def firstG : Nat → Nat → List Int → Option (Nat × Nat)
  | _, _, [] => none
  | i, z, c :: l => if 10 ≤ i then none else if 128 ≤ c then firstG (i + 1) (z + (c.toNat % 128) * 128 ^ i) l
      else if (c = 0 ∧ 0 < i) ∨ (i = 9 ∧ 1 < c) then none else some (z + c.toNat * 128 ^ i, i + 1)
def zagV (z : Nat) : Int := if z % 2 = 1 then -((z / 2 : Nat) : Int) - 1 else ((z / 2 : Nat) : Int)
/-- The number that bytes begin with, and how many it has. -/
def firstV (bs : List Int) : Option (Int × Nat) := (firstG 0 0 bs).map fun x => (zagV x.1, x.2)
def Bytes (bs : List Int) : Prop := ∀ b ∈ bs, 0 ≤ b ∧ b < 256
theorem Bytes.drop {bs : List Int} (h : Bytes bs) (k : Nat) : Bytes (bs.drop k) := fun b hb => h b (List.mem_of_mem_drop hb)
theorem Bytes.take {bs : List Int} (h : Bytes bs) (k : Nat) : Bytes (bs.take k) := fun b hb => h b (List.mem_of_mem_take hb)
theorem zag_zig {n : Int} : zagV (zigV n).toNat = n := by
  unfold zagV zigV
  split <;> split <;> omega
theorem zig_zag (z : Nat) : (zigV (zagV z)).toNat = z := by
  unfold zagV zigV
  split <;> split <;> omega
theorem zag_I64 {z : Nat} (h : z < 18446744073709551616) : I64 (zagV z) := by
  unfold zagV I64
  split <;> omega
theorem one3_zag (z : Nat) : one3 (zagV z) = grp z := by unfold one3; rw [zig_zag]
/-- What was put is read. -/
theorem firstG_grp : ∀ (m i z : Nat) (rest : List Int), i ≤ 9 → m * 128 ^ i < 18446744073709551616 → (i = 0 ∨ 0 < m) → firstG i z (grp m ++ rest) = some (z + m * 128 ^ i, i + (grp m).length) := by
  intro m
  induction m using Nat.strongRecOn with
  | _ m ih =>
    intro i z rest hi hm h0
    by_cases hz : m < 128
    · rw [grp_lt hz]
      show firstG i z ((m : Int) :: rest) = _
      unfold firstG
      rw [if_neg (by omega), if_neg (by omega), if_neg ?_]
      · simp
      · rintro (⟨h1, h2⟩ | ⟨rfl, h2⟩)
        · omega
        · have : (128 : Nat) ^ 9 = 9223372036854775808 := by decide
          rw [this] at hm
          omega
    · rw [grp_ge (by omega)]
      show firstG i z (((m % 128 + 128 : Nat) : Int) :: (grp (m / 128) ++ rest)) = _
      unfold firstG
      have hi9 : i < 9 := by
        rcases Nat.lt_or_ge i 9 with h | h
        · exact h
        · have : i = 9 := by omega
          subst this
          have : (128 : Nat) ^ 9 = 9223372036854775808 := by decide
          rw [this] at hm
          omega
      have hp : (128 : Nat) ^ (i + 1) = 128 * 128 ^ i := by rw [Nat.pow_succ, Nat.mul_comm]
      have hle : m / 128 * 128 ≤ m := Nat.div_mul_le_self m 128
      have hmul : m / 128 * 128 ^ (i + 1) ≤ m * 128 ^ i := by
        rw [hp, ← Nat.mul_assoc]
        exact Nat.mul_le_mul_right _ hle
      rw [if_neg (by omega), if_pos (by omega)]
      rw [ih (m / 128) (by omega) (i + 1) _ rest (by omega) (by omega) (.inr (by omega))]
      have e1 : (((m % 128 + 128 : Nat) : Int).toNat % 128) = m % 128 := by omega
      rw [e1, hp]
      congr 2
      · rw [Nat.add_assoc]
        congr 1
        rw [← Nat.mul_assoc, ← Nat.add_mul]
        congr 1
        omega
      · simp only [List.length_cons]; omega
theorem firstV_one {n : Int} (h : I64 n) (rest : List Int) : firstV (one3 n ++ rest) = some (n, (one3 n).length) := by
  have hz := zig_range h
  unfold firstV one3
  rw [firstG_grp _ 0 0 rest (by omega) (by omega) (.inl rfl)]
  simp only [Option.map_some]
  rw [show 0 + (zigV n).toNat * 128 ^ 0 = (zigV n).toNat by simp, zag_zig, Nat.zero_add]
theorem pow128 (i : Nat) (h : i ≤ 9) : 128 ^ i = 1 ∨ 128 ^ i = 128 ∨ 128 ^ i = 16384 ∨ 128 ^ i = 2097152 ∨ 128 ^ i = 268435456 ∨ 128 ^ i = 34359738368 ∨ 128 ^ i = 4398046511104 ∨ 128 ^ i = 562949953421312 ∨ 128 ^ i = 72057594037927936 ∨ (i = 9 ∧ 128 ^ i = 9223372036854775808) := by
  have : i = 0 ∨ i = 1 ∨ i = 2 ∨ i = 3 ∨ i = 4 ∨ i = 5 ∨ i = 6 ∨ i = 7 ∨ i = 8 ∨ i = 9 := by omega
  rcases this with rfl | rfl | rfl | rfl | rfl | rfl | rfl | rfl | rfl | rfl <;> decide
theorem z_inv {i m d : Nat} (hi : i ≤ 8) (hm : m * 128 ^ (i + 1) < 18446744073709551616) (hd : d < 128) : (d + 128 * m) * 128 ^ i < 18446744073709551616 := by
  have hK : 128 ^ (i + 1) ∣ 18446744073709551616 := by
    rw [show (128 : Nat) = 2 ^ 7 by decide, ← Nat.pow_mul, show 18446744073709551616 = 2 ^ 64 by decide]
    exact Nat.pow_dvd_pow 2 (by omega)
  obtain ⟨q, hq⟩ := hK
  have hp : (128 : Nat) ^ (i + 1) = 128 * 128 ^ i := by rw [Nat.pow_succ, Nat.mul_comm]
  have hpos : 0 < 128 ^ i := Nat.pow_pos (by decide)
  rw [hq, Nat.mul_comm] at hm
  have hmq : m < q := Nat.lt_of_mul_lt_mul_left hm
  rw [hq, hp]
  calc (d + 128 * m) * 128 ^ i < (128 * (m + 1)) * 128 ^ i := Nat.mul_lt_mul_of_pos_right (by omega) hpos
    _ = 128 * 128 ^ i * (m + 1) := by rw [Nat.mul_assoc, Nat.mul_assoc, Nat.mul_comm (m + 1)]
    _ ≤ 128 * 128 ^ i * q := Nat.mul_le_mul_left _ hmq
/-- What is read was put so. -/
theorem firstG_inv : ∀ (bs : List Int) (i z y k : Nat), Bytes bs → firstG i z bs = some (y, k) →
    i ≤ 9 ∧ ∃ m, y = z + m * 128 ^ i ∧ bs.take (k - i) = grp m ∧ k = i + (grp m).length ∧ m * 128 ^ i < 18446744073709551616 ∧ (i = 0 ∨ 0 < m) := by
  intro bs
  induction bs with
  | nil => intro i z y k _ h; cases h
  | cons c l ih =>
    intro i z y k hb h
    have hc := hb c (by simp)
    unfold firstG at h
    split at h
    · cases h
    · rename_i h10
      split at h
      · rename_i h128
        obtain ⟨hi, m, hy, ht, hk, hm, hpos⟩ := ih (i + 1) _ y k (fun b hb' => hb b (by simp [hb'])) h
        have hm0 : 0 < m := by omega
        have hp : (128 : Nat) ^ (i + 1) = 128 * 128 ^ i := by rw [Nat.pow_succ, Nat.mul_comm]
        have hcn : c.toNat % 128 + 128 = c.toNat := by omega
        have hg : grp (c.toNat % 128 + 128 * m) = c :: grp m := by
          rw [grp_ge (by omega)]
          rw [show (c.toNat % 128 + 128 * m) / 128 = m by omega, show (c.toNat % 128 + 128 * m) % 128 = c.toNat % 128 by omega, hcn]
          congr 1
          omega
        refine ⟨by omega, c.toNat % 128 + 128 * m, ?_, ?_, ?_, ?_, .inr (by omega)⟩
        · rw [hy, hp, Nat.add_mul, ← Nat.mul_assoc, Nat.mul_comm m 128, Nat.add_assoc]
        · rw [hg, show k - i = (k - (i + 1)) + 1 by omega, List.take_succ_cons, ht]
        · rw [hg, hk]; simp; omega
        · exact z_inv (by omega) hm (by omega)
      · rename_i h128
        split at h
        · cases h
        · rename_i hbad
          simp only [Option.some.injEq, Prod.mk.injEq] at h
          obtain ⟨rfl, rfl⟩ := h
          have hlt : c.toNat < 128 := by omega
          refine ⟨by omega, c.toNat, rfl, ?_, ?_, ?_, ?_⟩
          · rw [grp_lt hlt, show i + 1 - i = 1 by omega]
            simp; omega
          · rw [grp_lt hlt]; rfl
          · rcases pow128 i (by omega) with e | e | e | e | e | e | e | e | e | ⟨e9, e⟩
            all_goals (simp only [e]; clear ih hb; omega)
          · by_cases h0 : i = 0
            · exact .inl h0
            · right
              have : c ≠ 0 := fun hc0 => hbad (.inl ⟨hc0, by omega⟩)
              omega
theorem firstV_inv {bs : List Int} {v : Int} {k : Nat} (hb : Bytes bs) (h : firstV bs = some (v, k)) : I64 v ∧ bs.take k = one3 v ∧ k = (one3 v).length ∧ k ≤ bs.length ∧ 0 < k := by
  unfold firstV at h
  rw [Option.map_eq_some_iff] at h
  obtain ⟨⟨y, k'⟩, h1, h2⟩ := h
  simp only [Prod.mk.injEq] at h2
  obtain ⟨rfl, rfl⟩ := h2
  obtain ⟨_, m, hy, ht, hk, hm, _⟩ := firstG_inv bs 0 0 y k' hb h1
  have hym : y = m := by simpa using hy
  subst hym
  rw [Nat.sub_zero] at ht
  rw [Nat.zero_add] at hk
  have hlen := congrArg List.length ht
  rw [List.length_take] at hlen
  have hne : (grp y).length ≠ 0 := fun h0 => grp_ne y (List.length_eq_zero_iff.1 h0)
  rw [one3_zag]
  exact ⟨zag_I64 (by simpa using hm), ht, hk, by omega, by omega⟩
/-! ### so many numbers -/
def getN : Nat → List Int → Option (List Int)
  | 0, [] => some []
  | 0, _ :: _ => none
  | n + 1, bs => match firstV bs with
    | none => none
    | some (v, k) => (getN n (bs.drop k)).map (v :: ·)
def getV (bs : List Int) (n : Int) : Option (List Int) := if n < 0 then none else getN n.toNat bs
theorem getN_succ_none {n : Nat} {bs : List Int} (h : firstV bs = none) : getN (n + 1) bs = none := by unfold getN; rw [h]
theorem getN_succ_some {n : Nat} {bs : List Int} {v : Int} {k : Nat} (h : firstV bs = some (v, k)) : getN (n + 1) bs = (getN n (bs.drop k)).map (v :: ·) := by
  conv => lhs; unfold getN
  rw [h]
theorem getN_put : ∀ (l : List Int) (rest : List Int), (∀ n ∈ l, I64 n) → getN l.length (putV l) = some l
  | [], _, _ => rfl
  | n :: l, rest, h => by
    have h1 := firstV_one (h n (by simp)) (putV l)
    rw [← putV_cons] at h1
    rw [List.length_cons, getN_succ_some h1, putV_cons, List.drop_append_of_le_length (Nat.le_refl _), List.drop_length, List.nil_append, getN_put l rest fun x hx => h x (by simp [hx])]
    rfl
/-- What is had of bytes was put so. -/
theorem getN_inv : ∀ (n : Nat) (bs l : List Int), Bytes bs → getN n bs = some l → l.length = n ∧ bs = putV l ∧ ∀ x ∈ l, I64 x
  | 0, [], l, _, h => by simp only [getN, Option.some.injEq] at h; subst h; exact ⟨rfl, rfl, fun x hx => by cases hx⟩
  | 0, _ :: _, l, _, h => by cases h
  | n + 1, bs, l, hb, h => by
    unfold getN at h
    split at h
    · cases h
    · rename_i v k hv
      rw [Option.map_eq_some_iff] at h
      obtain ⟨l', h1, rfl⟩ := h
      obtain ⟨a1, a2, a3⟩ := getN_inv n _ l' (hb.drop k) h1
      obtain ⟨b1, b2, b3, b4, b5⟩ := firstV_inv hb hv
      refine ⟨by simp [a1], ?_, fun x hx => ?_⟩
      · rw [putV_cons, ← a2, ← b2, List.take_append_drop]
      · rcases List.mem_cons.1 hx with rfl | hx
        · exact b1
        · exact a3 x hx
end Go.Proofs.YtmkgcdgpokidjaaGreat

/- Chapter 3: Put, of the program and of the document. -/
namespace Go.Proofs.YtmkgcdgpokidjaaGreat
open Go.Eng

theorem turned_ok' {n : Int} {h : Hp} {Q : Int → Hp → Prop} (hn : I64 n) (hq : Q (zigV n) h) : callP Tryz.prog 98 [Value.int .i64 n] (cI .u64) h Q := by
  refine c98 ?_
  unfold F98
  refine ⟨by decide, by decide, ?_⟩
  rw [turned_eq hn]; exact hq
theorem zig_ok {n : Int} {h : Hp} {Q : Int → Hp → Prop} (hn : I64 n) (hq : Q (zigV n) h) : callP Tryz.prog 99 [Value.int .i64 n] (cI .u64) h Q := by
  refine c99 ?_
  unfold F99
  refine cond_d (fun h0 => ?_) fun h0 => ?_
  · rw [zig_eq1 hn h0]; exact hq
  · rw [zig_eq2 hn h0]; exact hq
theorem put3_ok {p0 : Sl} {g h : Hp} {l : List Hp} {ns : List Int} (o : On h l) (hg : g ∈ l) (r : Row (cI .i64) g p0 ns) (hn : ∀ n ∈ ns, I64 n) (hl : ns.length ≤ 1000000) {Q : Sl → Hp → Prop}
    (hq : ∀ s d h', On h' (d :: l) → Own (cI .u8) d s (putV ns) → Q s h') : callP Tryz.prog 86 [Value.slice p0.a p0.len p0.cap] cSl h Q := by
  refine c86 ?_
  unfold F86
  refine loop_i (fun z h' => ∃ (i : Nat) (d : Hp), z.2 = i ∧ i ≤ ns.length ∧ On h' (d :: l) ∧ Own (cI .u8) d z.1 (putV (ns.take i))) (fun z => ns.length - z.2.toNat) ⟨0, Hp.emp, rfl, Nat.zero_le _, o.emp, Own.nil _⟩ ?_
  rintro J ⟨s, z⟩ h' again ⟨i, d, hi, hle, o', w⟩
  dsimp only at hi w
  subst hi
  refine cond_d (fun hlt => ?_) fun hge => ?_
  · dsimp only at hlt
    rw [r.1] at hlt
    have hlt : i < ns.length := by omega
    have hi : ns[i]? = some ns[i] := List.getElem?_eq_getElem hlt
    refine idx_row r (by omega) (by omega) fun a ha => load_row r (o'.mem (by simp [hg])) rfl ha (i := i) hi (by simp) ?_
    have hni := hn _ (List.mem_of_getElem? hi)
    have hzr := zig_range hni
    refine turned_ok' hni ?_
    have hT := putV_take hi
    have hTl := putV_len (ns.take (i + 1)) fun n hn' => hn n (List.mem_of_mem_take hn')
    rw [List.length_take] at hTl
    refine loop_i (fun z h2 => ∃ (zn : Nat) (d : Hp) (pre : List Int), z.2 = zn ∧ zn < 18446744073709551616 ∧ On h2 (d :: l) ∧ Own (cI .u8) d z.1 pre ∧ pre ++ grp zn = putV (ns.take (i + 1))) (fun z => z.2.toNat)
      ⟨(zigV ns[i]).toNat, d, _, by dsimp only; omega, by omega, o', w, hT.symm⟩ ?_
    rintro J2 ⟨s2, z2⟩ h2 again2 ⟨zn, d2, pre, hz, hzl, o2, w2, hpre⟩
    dsimp only at hz w2
    subst hz
    have hpl : pre.length ≤ 10000000 := by
      have := congrArg List.length hpre
      rw [List.length_append] at this
      omega
    refine cond_d (fun hge => ?_) fun hlt2 => ?_
    · dsimp only at hge
      refine alloc_ob o2 fun k1 h3 o3 => ?_
      have rb : Row (cI .u8) (ob k1 [Value.int .u8 ((zn % 128 + 128 : Nat) : Int)] 5) ⟨some ⟨k1, 0, none⟩, 1, 1⟩ [((zn % 128 + 128 : Nat) : Int)] := row_ob rfl rfl
      dsimp only at o3
      rw [or8] at o3
      refine append_own (s := s2) (t := ⟨some ⟨k1, 0, none⟩, 1, 1⟩) o3.swap rfl w2 (by decide) rb (o3.get (i := 0) rfl) (by unfold roomP; simp; omega) fun d4 p4 n4 m4 h4 o4 w4 => ?_
      refine ⟨by decide, ?_⟩
      have e := shr7 zn
      refine again2 _ _ ⟨zn / 128, d4, _, e, by omega, o4.sublist (by simp), w4, ?_⟩ ?_
      · rw [← hpre, grp_ge (z := zn) (by omega)]; simp
      · dsimp only; rw [e]; omega
    · dsimp only at hlt2
      refine alloc_ob o2 fun k1 h3 o3 => ?_
      have rb : Row (cI .u8) (ob k1 [Value.int .u8 (zn : Int)] 5) ⟨some ⟨k1, 0, none⟩, 1, 1⟩ [(zn : Int)] := row_ob rfl rfl
      dsimp only at o3
      rw [wrap8, show (zn : Int) % 256 = zn by omega] at o3
      refine append_own (s := s2) (t := ⟨some ⟨k1, 0, none⟩, 1, 1⟩) o3.swap rfl w2 (by decide) rb (o3.get (i := 0) rfl) (by unfold roomP; simp; omega) fun d4 p4 n4 m4 h4 o4 w4 => ?_
      refine again _ _ ⟨i + 1, d4, w64n (by omega), by omega, o4.sublist (by simp), ?_⟩ (by dsimp only; rw [w64n (by omega)]; omega)
      rw [← hpre, grp_lt (z := zn) (by omega)]
      exact w4
  · dsimp only at hge
    rw [r.1] at hge
    have : i = ns.length := by omega
    subst this
    rw [List.take_length] at w
    exact hq _ _ _ o' w
theorem one_ok3 {n : Int} {h : Hp} {l : List Hp} (o : On h l) (hn : I64 n) {Q : Sl → Hp → Prop}
    (hq : ∀ s d h', On h' (d :: l) → Own (cI .u8) d s (one3 n) → Q s h') : callP Tryz.prog 88 [Value.int .i64 n] cSl h Q := by
  have hzr := zig_range hn
  have hlen := one3_len hn
  refine c88 ?_
  unfold F88
  refine zig_ok hn ?_
  refine loop_i (fun z h2 => ∃ (zn : Nat) (d : Hp) (pre : List Int), z.1 = zn ∧ zn < 18446744073709551616 ∧ On h2 (d :: l) ∧ Own (cI .u8) d z.2 pre ∧ pre ++ grp zn = one3 n) (fun z => z.1.toNat)
    ⟨(zigV n).toNat, Hp.emp, [], by dsimp only; omega, by omega, o.emp, Own.nil _, rfl⟩ ?_
  rintro J2 ⟨z2, s2⟩ h2 again2 ⟨zn, d2, pre, hz, hzl, o2, w2, hpre⟩
  dsimp only at hz w2
  subst hz
  have hpl : pre.length ≤ 10 := by
    have := congrArg List.length hpre
    rw [List.length_append] at this
    omega
  refine cond_d (fun hge => ?_) fun hlt2 => ?_
  · dsimp only at hge
    refine ⟨by decide, alloc_ob o2 fun k1 h3 o3 => ?_⟩
    have rb : Row (cI .u8) (ob k1 [Value.int .u8 ((zn % 128 + 128 : Nat) : Int)] 5) ⟨some ⟨k1, 0, none⟩, 1, 1⟩ [((zn % 128 + 128 : Nat) : Int)] := row_ob rfl rfl
    dsimp only at o3
    rw [show IntKind.u8.wrap (IntKind.u64.wrap ((zn : Int).tmod 128 + 128)) = ((zn % 128 + 128 : Nat) : Int) by rw [wrap8, wrap64, Int.tmod_eq_emod_of_nonneg (by omega)]; omega] at o3
    refine append_own (s := s2) (t := ⟨some ⟨k1, 0, none⟩, 1, 1⟩) o3.swap rfl w2 (by decide) rb (o3.get (i := 0) rfl) (by unfold roomP; simp; omega) fun d4 p4 n4 m4 h4 o4 w4 => ?_
    refine ⟨by decide, ?_⟩
    have e : quoI .u64 (zn : Int) 128 = ((zn / 128 : Nat) : Int) := by
      show IntKind.u64.wrap ((zn : Int).tdiv 128) = _
      rw [Int.tdiv_eq_ediv_of_nonneg (by omega), wrap64]; omega
    refine again2 _ _ ⟨zn / 128, d4, _, e, by omega, o4.sublist (by simp), w4, ?_⟩ ?_
    · rw [← hpre, grp_ge (z := zn) (by omega)]; simp
    · dsimp only; rw [e]; omega
  · dsimp only at hlt2
    refine alloc_ob o2 fun k1 h3 o3 => ?_
    have rb : Row (cI .u8) (ob k1 [Value.int .u8 (zn : Int)] 5) ⟨some ⟨k1, 0, none⟩, 1, 1⟩ [(zn : Int)] := row_ob rfl rfl
    dsimp only at o3
    rw [wrap8, show (zn : Int) % 256 = zn by omega] at o3
    refine append_own (s := s2) (t := ⟨some ⟨k1, 0, none⟩, 1, 1⟩) o3.swap rfl w2 (by decide) rb (o3.get (i := 0) rfl) (by unfold roomP; simp; omega) fun d4 p4 n4 m4 h4 o4 w4 => ?_
    refine hq _ d4 _ (o4.sublist (by simp)) ?_
    rw [← hpre, grp_lt (z := zn) (by omega)]
    exact w4
theorem rput3_ok {p0 : Sl} {g h : Hp} {l : List Hp} {ns : List Int} (o : On h l) (hg : g ∈ l) (r : Row (cI .i64) g p0 ns) (hn : ∀ n ∈ ns, I64 n) (hl : ns.length ≤ 1000000) {Q : Sl → Hp → Prop}
    (hq : ∀ s d h', On h' (d :: l) → Own (cI .u8) d s (putV ns) → Q s h') : callP Tryz.prog 93 [Value.slice p0.a p0.len p0.cap] cSl h Q := by
  refine c93 ?_
  unfold F93
  refine alloc_ob o fun k1 h1 o1 => ?_
  refine loop_i (fun z h' => ∃ (i : Nat) (d : Hp), z.2 = i ∧ i ≤ ns.length ∧ On h' (d :: l) ∧ Own (cI .u8) d z.1 (putV (ns.take i))) (fun z => ns.length - z.2.toNat) ⟨0, _, rfl, Nat.zero_le _, o1, own_ob (cd := cI .u8) (xs := []) (rest := []) rfl rfl rfl⟩ ?_
  rintro J ⟨s, z⟩ h' again ⟨i, d, hi, hle, o', w⟩
  dsimp only at hi w
  subst hi
  refine cond_d (fun hlt => ?_) fun hge => ?_
  · dsimp only at hlt
    rw [r.1] at hlt
    have hlt : i < ns.length := by omega
    have hi : ns[i]? = some ns[i] := List.getElem?_eq_getElem hlt
    refine idx_row r (by omega) (by omega) fun a ha => load_row r (o'.mem (by simp [hg])) rfl ha (i := i) hi (by simp) ?_
    have hni := hn _ (List.mem_of_getElem? hi)
    have hT := putV_take hi
    have hTl := putV_len (ns.take i) fun n hn' => hn n (List.mem_of_mem_take hn')
    rw [List.length_take] at hTl
    have h1l := one3_len hni
    refine one_ok3 o' hni fun s3 d3 h3 o3 w3 => ?_
    refine append_own (s := s) (t := s3) o3.swap rfl w (by decide) w3.row (o3.get (i := 0) rfl) (by unfold roomP; omega) fun d4 p4 n4 m4 h4 o4 w4 => ?_
    refine again _ _ ⟨i + 1, d4, w64n (by omega), by omega, o4.sublist (by simp), ?_⟩ (by dsimp only; rw [w64n (by omega)]; omega)
    rw [hT]; exact w4
  · dsimp only at hge
    rw [r.1] at hge
    have : i = ns.length := by omega
    subst this
    rw [List.take_length] at w
    exact hq _ _ _ o' w
end Go.Proofs.YtmkgcdgpokidjaaGreat

/- Chapter 3: First, Get, of the program and of the document. -/
namespace Go.Proofs.YtmkgcdgpokidjaaGreat
open Go.Eng

/-! ### words of the machine -/
theorem pow7 (i : Nat) : (2 : Nat) ^ (7 * i) = 128 ^ i := by rw [Nat.pow_mul]
theorem shl_or {z d i : Nat} (hi : i ≤ 9) (hz : z < 128 ^ i) (hd : d * 128 ^ i < 18446744073709551616) : orI .u64 (z : Int) (shlI .u64 ((d : Nat) : Int) ((7 * i : Nat) : Int)) = ((z + d * 128 ^ i : Nat) : Int) := by
  have e1 : shlI .u64 ((d : Nat) : Int) ((7 * i : Nat) : Int) = ((d * 128 ^ i : Nat) : Int) := by
    show IntKind.u64.wrap ((d : Int) * 2 ^ (min ((7 * i : Nat) : Int).toNat 64)) = _
    rw [show min ((7 * i : Nat) : Int).toNat 64 = 7 * i by omega, wrap64]
    have : (d : Int) * 2 ^ (7 * i) = ((d * 128 ^ i : Nat) : Int) := by rw [← pow7]; simp
    rw [this]; omega
  rw [e1]
  show IntKind.u64.wrap ((BitVec.ofInt 64 (z : Int) ||| BitVec.ofInt 64 ((d * 128 ^ i : Nat) : Int)).toNat : Int) = _
  have hz' : z < 18446744073709551616 := by
    rcases pow128 i hi with e | e | e | e | e | e | e | e | e | ⟨_, e⟩ <;> (simp only [e] at hz; omega)
  have e2 : (BitVec.ofInt 64 (z : Int) ||| BitVec.ofInt 64 ((d * 128 ^ i : Nat) : Int)).toNat = z + d * 128 ^ i := by
    rw [BitVec.toNat_or, BitVec.ofInt_natCast, BitVec.ofInt_natCast, BitVec.toNat_ofNat, BitVec.toNat_ofNat, Nat.mod_eq_of_lt hz', Nat.mod_eq_of_lt hd, ← pow7, Nat.or_comm, Nat.mul_comm d]
    rw [← Nat.two_pow_add_eq_or_of_lt (by rw [pow7]; exact hz)]
    omega
  rw [e2, wrap64]
  have hsum : z + d * 128 ^ i < 18446744073709551616 := by
    rcases pow128 i hi with e | e | e | e | e | e | e | e | e | ⟨_, e⟩ <;> (simp only [e] at hz hd ⊢; omega)
  omega
theorem or_range (x y : Int) : 0 ≤ orI .u64 x y ∧ orI .u64 x y < 18446744073709551616 := wrap64_range _
theorem tmod128 {c : Int} (h : 0 ≤ c ∧ c < 256) : IntKind.u64.wrap (c.tmod 128) = ((c.toNat % 128 : Nat) : Int) := by
  rw [Int.tmod_eq_emod_of_nonneg h.1, wrap64]; omega
theorem back_eq {z : Nat} (h : z < 18446744073709551616) : xorI .i64 (IntKind.i64.wrap (shrI .u64 (z : Int) 1)) (IntKind.i64.wrap (0 - IntKind.i64.wrap (andI .u64 (z : Int) 1))) = zagV z := by
  have e1 : shrI .u64 (z : Int) 1 = ((z / 2 : Nat) : Int) := by
    show (z : Int).fdiv (2 ^ 1) = _
    rw [Int.fdiv_eq_ediv_of_nonneg _ (by decide)]; omega
  have e2 : andI .u64 (z : Int) 1 = ((z % 2 : Nat) : Int) := by
    show IntKind.u64.wrap ((BitVec.ofInt 64 (z : Int) &&& BitVec.ofInt 64 1).toNat : Int) = _
    rw [BitVec.toNat_and, BitVec.ofInt_natCast, BitVec.toNat_ofNat, show (BitVec.ofInt 64 1).toNat = 2 ^ 1 - 1 from rfl, Nat.and_two_pow_sub_one_eq_mod, Nat.mod_eq_of_lt h, wrap64]
    omega
  rw [e1, e2, w64 (n := ((z / 2 : Nat) : Int)) (by omega) (by omega), w64 (n := ((z % 2 : Nat) : Int)) (by omega) (by omega), w64 (by omega) (by omega)]
  show IntKind.i64.wrap ((BitVec.ofInt 64 ((z / 2 : Nat) : Int) ^^^ BitVec.ofInt 64 (0 - ((z % 2 : Nat) : Int))).toNat : Int) = _
  unfold zagV
  by_cases hp : z % 2 = 1
  · rw [if_pos hp, hp, show (0 - ((1 : Nat) : Int)) = -1 by omega, show BitVec.ofInt 64 (-1) = BitVec.allOnes 64 by decide, BitVec.xor_allOnes, BitVec.toNat_not, BitVec.ofInt_natCast, BitVec.toNat_ofNat, IntKind.wrap_i64]
    omega
  · rw [if_neg hp, show z % 2 = 0 by omega, show (0 - ((0 : Nat) : Int)) = 0 by omega, show BitVec.ofInt 64 0 = 0#64 by decide, BitVec.xor_zero, BitVec.ofInt_natCast, BitVec.toNat_ofNat, w64 (by omega) (by omega)]
    omega
theorem back_ok {z : Nat} {h : Hp} {Q : Int → Hp → Prop} (hz : z < 18446744073709551616) (hq : Q (zagV z) h) : callP Tryz.prog 95 [Value.int .u64 (z : Int)] (cI .i64) h Q := by
  refine c95 ?_
  unfold F95
  refine ⟨by decide, ?_⟩
  rw [back_eq hz]; exact hq
theorem zag_ok {z : Nat} {h : Hp} {Q : Int → Hp → Prop} (hz : z < 18446744073709551616) (hq : Q (zagV z) h) : callP Tryz.prog 87 [Value.int .u64 (z : Int)] (cI .i64) h Q := by
  refine c87 ?_
  unfold F87
  have e1 : quoI .u64 (z : Int) 2 = ((z / 2 : Nat) : Int) := by
    show IntKind.u64.wrap ((z : Int).tdiv 2) = _
    rw [Int.tdiv_eq_ediv_of_nonneg (by omega), wrap64]; omega
  rw [e1, w64 (n := ((z / 2 : Nat) : Int)) (by omega) (by omega), w64 (n := 0 - ((z / 2 : Nat) : Int)) (by omega) (by omega), w64 (by omega) (by omega)]
  refine ⟨by decide, ?_⟩
  rw [Int.tmod_eq_emod_of_nonneg (by omega)]
  unfold zagV at hq
  refine cond_i (fun e => ⟨by decide, ?_⟩) fun e => ⟨by decide, ?_⟩
  · have e : (z : Int) % 2 = 1 := by simpa using e
    rw [if_pos (by omega)] at hq
    rw [show (0 : Int) - ((z / 2 : Nat) : Int) - 1 = -((z / 2 : Nat) : Int) - 1 by omega]; exact hq
  · have e : ¬ (z : Int) % 2 = 1 := by simpa using e
    rw [if_neg (by omega)] at hq; exact hq
/-- The answer on the number that bytes begin with. -/
def firstR (bs : List Int) : Int × Int × Bool :=
  match firstV bs with
  | none => (0, 0, false)
  | some (v, k) => (v, (k : Int), true)
theorem firstR_none {bs : List Int} (h : firstV bs = none) : firstR bs = (0, 0, false) := by unfold firstR; rw [h]
theorem firstR_some {bs : List Int} {v : Int} {k : Nat} (h : firstV bs = some (v, k)) : firstR bs = (v, (k : Int), true) := by unfold firstR; rw [h]
theorem firstG_bad {i z : Nat} {c : Int} {l : List Int} (h1 : c < 128) (h2 : (c = 0 ∧ 0 < i) ∨ (i = 9 ∧ 1 < c)) : firstG i z (c :: l) = none := by
  unfold firstG
  split
  · rfl
  · have e1 : ¬ (128 : Int) ≤ c := by omega
    simp only [if_neg e1]
theorem firstG_end {i z : Nat} {c : Int} {l : List Int} (h0 : i ≤ 9) (h1 : c < 128) (h2 : ¬ ((c = 0 ∧ 0 < i) ∨ (i = 9 ∧ 1 < c))) : firstG i z (c :: l) = some (z + c.toNat * 128 ^ i, i + 1) := by
  unfold firstG
  rw [if_neg (by omega), if_neg (by omega), if_neg h2]
theorem firstG_more {i z : Nat} {c : Int} {l : List Int} (h0 : i ≤ 9) (h1 : 128 ≤ c) : firstG i z (c :: l) = firstG (i + 1) (z + (c.toNat % 128) * 128 ^ i) l := by
  conv => lhs; unfold firstG
  rw [if_neg (by omega), if_pos h1]
theorem firstG_ten (z : Nat) (l : List Int) : firstG 10 z l = none := by
  cases l with
  | nil => rfl
  | cons c l => unfold firstG; rw [if_pos (by omega)]
theorem firstV_of {bs : List Int} {i z : Nat} (h : firstG 0 0 bs = firstG i z (bs.drop i)) {o : Option (Nat × Nat)} (ho : firstG i z (bs.drop i) = o) : firstV bs = o.map fun x => (zagV x.1, x.2) := by
  unfold firstV; rw [h, ho]
theorem z_lt {i z d : Nat} (hi : i ≤ 8) (hz : z < 128 ^ i) (hd : d < 128) : z + d * 128 ^ i < 128 ^ (i + 1) ∧ d * 128 ^ i < 18446744073709551616 := by
  have hp : (128 : Nat) ^ (i + 1) = 128 * 128 ^ i := by rw [Nat.pow_succ, Nat.mul_comm]
  rw [hp]
  rcases pow128 i (by omega) with e | e | e | e | e | e | e | e | e | ⟨e9, e⟩
  all_goals (simp only [e] at hz ⊢; omega)
theorem z_end {i z d : Nat} (hi : i ≤ 9) (hz : z < 128 ^ i) (hd : d < 128) (h9 : i = 9 → d ≤ 1) : d * 128 ^ i < 18446744073709551616 ∧ z + d * 128 ^ i < 18446744073709551616 := by
  rcases pow128 i hi with e | e | e | e | e | e | e | e | e | ⟨e9, e⟩
  all_goals (first | (simp only [e] at hz ⊢; have := h9 e9; omega) | (simp only [e] at hz ⊢; omega))
theorem first_ok {p0 : Sl} {g h : Hp} {bs : List Int} (hg : g.sub h) (r : Row (cI .u8) g p0 bs) (hb : Bytes bs) (hcap : bs.length ≤ p0.cap) (hl : bs.length ≤ 1000000) {Q : Int × Int × Bool → Hp → Prop} (hq : Q (firstR bs) h) :
    callP Tryz.prog 79 [Value.slice p0.a p0.len p0.cap] (tupC [cI .i64, cI .i64, cB]) h Q := by
  refine c79 ?_
  unfold F79
  have hlen := r.1
  obtain ⟨m, hm⟩ : ∃ m : Nat, m = min bs.length 10 := ⟨_, rfl⟩
  have hmin : minI (p0.len : Int) 10 = (m : Int) := by
    unfold minI; rw [hlen, hm]; split <;> omega
  rw [hmin]
  refine ⟨by omega, by omega, ?_⟩
  rw [show ((m : Int).toNat) = m by omega]
  have r1 := r.cut (k := 0) (m := m) (cap' := 0) (by omega) (by omega) hcap rfl (z := 1) rfl
  refine loop_i (fun z h' => ∃ i zn : Nat, z.2 = i ∧ i ≤ m ∧ h' = h ∧ firstG 0 0 bs = firstG i zn (bs.drop i) ∧ (i ≤ 9 → z.1 = zn ∧ zn < 128 ^ i)) (fun z => m - z.2.toNat) ⟨0, 0, rfl, Nat.zero_le _, rfl, rfl, fun _ => ⟨rfl, by decide⟩⟩ ?_
  rintro J ⟨x, z⟩ h' again ⟨i, zn, hz, hle, rfl, hf, hx⟩
  dsimp only at hz hx
  subst hz
  refine cond_d (fun hlt => ?_) fun hge => ?_
  · have hltn : i < m := by dsimp only at hlt; omega
    clear hlt
    have hlt := hltn
    obtain ⟨rfl, hzn⟩ := hx (by omega)
    have hil : i < bs.length := by omega
    have hi : bs[i]? = some bs[i] := List.getElem?_eq_getElem hil
    have hi1 : ((bs.drop 0).take (m - 0))[i]? = some bs[i] := by
      rw [List.drop_zero, Nat.sub_zero, List.getElem?_take_of_lt hlt]; exact hi
    have hdrop : bs.drop i = bs[i] :: bs.drop (i + 1) := List.drop_eq_getElem_cons hil
    have hc := hb _ (List.mem_of_getElem? hi)
    refine idx_row r1 (Int.natCast_nonneg i) (by simp; omega) fun a ha => load_row r1 hg rfl ha (i := i) hi1 (by simp) ?_
    generalize bs[i] = c at hi hi1 hdrop hc
    have e7 : IntKind.i64.wrap (7 * (i : Int)) = ((7 * i : Nat) : Int) := by rw [w64 (by omega) (by omega)]; omega
    dsimp only
    rw [e7, tmod128 hc]
    refine ⟨by decide, by omega, ?_⟩
    refine cond_d (fun hc1 => ?_) fun hc1 => ?_
    · have hstep := firstG_more (z := zn) (l := bs.drop (i + 1)) (show i ≤ 9 by omega) hc1
      refine again _ _ ⟨i + 1, zn + (c.toNat % 128) * 128 ^ i, w64n (by omega), by omega, rfl, by rw [hf, hdrop, hstep], fun h9 => ?_⟩ (by dsimp only; rw [w64n (by omega)]; omega)
      obtain ⟨z1, z2⟩ := z_lt (i := i) (d := c.toNat % 128) (by omega) hzn (by omega)
      dsimp only
      exact ⟨shl_or (by omega) hzn z2, z1⟩
    · have hc2 : c < 128 := by omega
      have hmod : c.toNat % 128 = c.toNat := by omega
      rw [hmod]
      refine join_i (fun t h2 => h2 = h' ∧ t = decide ((c = 0 ∧ 0 < i) ∨ (i = 9 ∧ 1 < c))) ?_ fun J2 hJ2 => ?_
      · rintro t h2 ⟨rfl, rfl⟩
        refine cond_d (fun hbad => ?_) fun hbad => ?_
        · have hv : firstV bs = none := firstV_of (o := none) hf (by rw [hdrop]; exact firstG_bad hc2 hbad)
          rw [firstR_none hv] at hq; exact hq
        · have hv : firstV bs = some (zagV (zn + c.toNat * 128 ^ i), i + 1) := firstV_of (o := some (zn + c.toNat * 128 ^ i, i + 1)) hf (by rw [hdrop]; exact firstG_end (by omega) hc2 hbad)
          rw [firstR_some hv] at hq
          obtain ⟨z1, z2⟩ := z_end (i := i) (z := zn) (d := c.toNat) (by omega) hzn (by omega) (fun h9 => by omega)
          rw [shl_or (by omega) hzn z1]
          refine back_ok z2 ?_
          rw [w64n (by omega)]; exact hq
      · have hd : ∀ t : Bool, (t = true ↔ ((c = 0 ∧ 0 < i) ∨ (i = 9 ∧ 1 < c))) → t = decide ((c = 0 ∧ 0 < i) ∨ (i = 9 ∧ 1 < c)) := by
          intro t ht
          rw [Bool.eq_iff_iff, ht, decide_eq_true_iff]
        refine cond_i (fun e0 => ?_) fun e0 => ?_
        · have e0 : c = 0 := by simpa using e0
          refine cond_d (fun e1 => hJ2 _ _ ⟨rfl, hd _ (by simp; omega)⟩) fun e1 => ?_
          refine cond_i (fun e2 => hJ2 _ _ ⟨rfl, hd _ ?_⟩) fun e2 => hJ2 _ _ ⟨rfl, hd _ ?_⟩
          · simp only [beq_iff_eq] at e2; simp; omega
          · simp only [beq_eq_false_iff_ne] at e2; simp; omega
        · have e0 : c ≠ 0 := by simpa using e0
          refine cond_i (fun e2 => hJ2 _ _ ⟨rfl, hd _ ?_⟩) fun e2 => hJ2 _ _ ⟨rfl, hd _ ?_⟩
          · simp only [beq_iff_eq] at e2; simp; omega
          · simp only [beq_eq_false_iff_ne] at e2; simp; omega
  · have him : i = m := by dsimp only at hge; omega
    have hnone : firstG i zn (bs.drop i) = none := by
      by_cases h10 : i = 10
      · rw [h10]; exact firstG_ten _ _
      · rw [List.drop_eq_nil_of_le (by omega)]; rfl
    have hv : firstV bs = none := firstV_of (o := none) hf hnone
    rw [firstR_none hv] at hq; exact hq
/-! ### texts -/
theorem push_toList (s : ByteArray) (b : UInt8) : (s.push b).data.toList = s.data.toList ++ [b] := by simp [ByteArray.push]
theorem mkStr_data : ∀ (xs : List Int) (s : ByteArray), (xs.foldl (fun s n => s.push (UInt8.ofNat n.toNat)) s).data.toList = s.data.toList ++ xs.map fun n => UInt8.ofNat n.toNat
  | [], s => by simp
  | x :: xs, s => by rw [List.foldl_cons, mkStr_data xs, push_toList]; simp
theorem mkStr_list (xs : List Int) : (mkStr xs).data.toList = xs.map fun n => UInt8.ofNat n.toNat := by
  unfold mkStr; rw [mkStr_data]; rfl
theorem u8_inj {x y : Int} (hx : 0 ≤ x ∧ x < 256) (hy : 0 ≤ y ∧ y < 256) (h : UInt8.ofNat x.toNat = UInt8.ofNat y.toNat) : x = y := by
  have := congrArg UInt8.toNat h
  simp only [UInt8.toNat_ofNat'] at this
  omega
theorem map_inj : ∀ {xs ys : List Int}, Bytes xs → Bytes ys → (xs.map fun n => UInt8.ofNat n.toNat) = (ys.map fun n => UInt8.ofNat n.toNat) → xs = ys
  | [], [], _, _, _ => rfl
  | [], _ :: _, _, _, h => by cases h
  | _ :: _, [], _, _, h => by cases h
  | x :: xs, y :: ys, hx, hy, h => by
    simp only [List.map_cons, List.cons.injEq] at h
    rw [u8_inj (hx x (by simp)) (hy y (by simp)) h.1, map_inj (fun b hb => hx b (by simp [hb])) (fun b hb => hy b (by simp [hb])) h.2]
/-- Texts of bytes are the same just where the bytes are. -/
theorem strEq_mk {xs ys : List Int} (hx : Bytes xs) (hy : Bytes ys) : strEq (mkStr xs) (mkStr ys) = decide (xs = ys) := by
  rw [Bool.eq_iff_iff, decide_eq_true_iff]
  constructor
  · intro h
    have h : (mkStr xs).toList = (mkStr ys).toList := by simpa [strEq] using h
    rw [ByteArray.toList_eq, ByteArray.toList_eq, mkStr_list, mkStr_list] at h
    exact map_inj hx hy h
  · rintro rfl; exact strEq_self _
theorem rfirst_ok {p0 : Sl} {g h : Hp} {l : List Hp} {bs : List Int} (o : On h l) (hg : g ∈ l) (r : Row (cI .u8) g p0 bs) (hb : Bytes bs) (hcap : bs.length ≤ p0.cap) (hl : bs.length ≤ 1000000) {Q : Int × Int × Bool → Hp → Prop} (hq : ∀ h', On h' l → Q (firstR bs) h') :
    callP Tryz.prog 58 [Value.slice p0.a p0.len p0.cap] (tupC [cI .i64, cI .i64, cB]) h Q := by
  refine c58 ?_
  unfold F58
  have hlen := r.1
  refine loop_i (fun z h' => ∃ i zn : Nat, z.2 = i ∧ i ≤ bs.length ∧ i ≤ 10 ∧ h' = h ∧ firstG 0 0 bs = firstG i zn (bs.drop i) ∧ (i ≤ 9 → z.1 = zn ∧ zn < 128 ^ i)) (fun z => 10 - z.2.toNat) ⟨0, 0, rfl, Nat.zero_le _, Nat.zero_le _, rfl, rfl, fun _ => ⟨rfl, by decide⟩⟩ ?_
  rintro J ⟨x, z⟩ h' again ⟨i, zn, hz, hle, h10, rfl, hf, hx⟩
  dsimp only at hz hx
  subst hz
  refine join_i (fun t h2 => h2 = h' ∧ t = decide (i < bs.length ∧ i < 10)) ?_ fun J2 hJ2 => ?_
  · rintro t h2 ⟨rfl, rfl⟩
    refine cond_d (fun ⟨hil, hi10⟩ => ?_) fun hge => ?_
    · obtain ⟨rfl, hzn⟩ := hx (by omega)
      have hi : bs[i]? = some bs[i] := List.getElem?_eq_getElem hil
      have hdrop : bs.drop i = bs[i] :: bs.drop (i + 1) := List.drop_eq_getElem_cons hil
      have hc := hb _ (List.mem_of_getElem? hi)
      refine idx_row r (Int.natCast_nonneg i) (by dsimp only; omega) fun a ha => load_row r (o.mem hg) rfl ha (i := i) hi (by simp) ?_
      have e7 : IntKind.u64.wrap (IntKind.i64.wrap (7 * (i : Int))) = ((7 * i : Nat) : Int) := by rw [w64 (by omega) (by omega), wrap64]; omega
      dsimp only
      refine ⟨by decide, by rw [e7]; omega, ?_⟩
      refine idx_row r (Int.natCast_nonneg i) (by omega) fun a ha => load_row r (o.mem hg) rfl ha (i := i) hi (by simp) ?_
      generalize bs[i] = c at hi hdrop hc
      rw [e7, tmod128 hc]
      refine cond_d (fun hc1 => ?_) fun hc1 => ?_
      · have hmod : c.toNat % 128 = c.toNat := by omega
        rw [hmod]
        have hrange := or_range (zn : Int) (shlI .u64 ((c.toNat : Nat) : Int) ((7 * i : Nat) : Int))
        obtain ⟨y, hy⟩ : ∃ y : Nat, orI .u64 (zn : Int) (shlI .u64 ((c.toNat : Nat) : Int) ((7 * i : Nat) : Int)) = (y : Int) := ⟨(orI .u64 (zn : Int) (shlI .u64 ((c.toNat : Nat) : Int) ((7 * i : Nat) : Int))).toNat, by omega⟩
        rw [hy] at hrange ⊢
        have hy' : y < 18446744073709551616 := by omega
        refine zag_ok hy' ?_
        rw [w64n (by omega)]
        refine ⟨by omega, by omega, ?_⟩
        rw [show (((i + 1 : Nat) : Int)).toNat = i + 1 by omega]
        have r1 := r.cut (k := 0) (m := i + 1) (cap' := 0) (by omega) (by omega) hcap rfl (z := 1) rfl
        rw [List.drop_zero, Nat.sub_zero] at r1
        refine str_row r1 (o.mem hg) ?_
        refine one_ok3 o (zag_I64 hy') fun s d h3 o3 w3 => ?_
        refine ⟨⟨str_row r1 (o3.mem (by simp [hg])) rfl, trivial⟩, ?_⟩
        refine str_row w3.row (o3.get (i := 0) rfl) ?_
        rw [strEq_mk (xs := one3 (zagV y)) (fun b hb' => grp_byte _ b hb') (hb.take _)]
        by_cases hbad : (c = 0 ∧ 0 < i) ∨ (i = 9 ∧ 1 < c)
        · have hv : firstV bs = none := firstV_of (o := none) hf (by rw [hdrop]; exact firstG_bad hc1 hbad)
          have hne : one3 (zagV y) ≠ bs.take (i + 1) := by
            intro he
            have := firstV_one (zag_I64 hy') (bs.drop (i + 1))
            rw [he, List.take_append_drop, hv] at this
            cases this
          refine cond_t (by rw [decide_eq_false hne]; rfl) ?_
          have := hq _ o3.tail
          rw [firstR_none hv] at this; exact this
        · have hv : firstV bs = some (zagV (zn + c.toNat * 128 ^ i), i + 1) := firstV_of (o := some (zn + c.toNat * 128 ^ i, i + 1)) hf (by rw [hdrop]; exact firstG_end (by omega) hc1 hbad)
          obtain ⟨z1, z2⟩ := z_end (i := i) (z := zn) (d := c.toNat) (by omega) hzn (by omega) (fun h9 => by omega)
          rw [shl_or (by omega) hzn z1] at hy
          have hyy : y = zn + c.toNat * 128 ^ i := by omega
          subst hyy
          obtain ⟨_, b2, _⟩ := firstV_inv hb hv
          refine cond_f (by rw [decide_eq_true b2.symm]; rfl) ?_
          have := hq _ o3.tail
          rw [firstR_some hv] at this; exact this
      · have hstep := firstG_more (z := zn) (l := bs.drop (i + 1)) (show i ≤ 9 by omega) (show 128 ≤ c by omega)
        refine again _ _ ⟨i + 1, zn + (c.toNat % 128) * 128 ^ i, w64n (by omega), by omega, by omega, rfl, by rw [hf, hdrop, hstep], fun h9 => ?_⟩ (by dsimp only; rw [w64n (by omega)]; omega)
        obtain ⟨z1, z2⟩ := z_lt (i := i) (d := c.toNat % 128) (by omega) hzn (by omega)
        dsimp only
        exact ⟨shl_or (by omega) hzn z2, z1⟩
    · have hnone : firstG i zn (bs.drop i) = none := by
        by_cases h10' : i = 10
        · rw [h10']; exact firstG_ten _ _
        · rw [List.drop_eq_nil_of_le (by omega)]; rfl
      have hv : firstV bs = none := firstV_of (o := none) hf hnone
      have := hq _ o
      rw [firstR_none hv] at this; exact this
  · refine cond_d (fun hlt => ?_) fun hge => ?_
    · dsimp only at hlt
      refine hJ2 _ _ ⟨rfl, ?_⟩
      rw [Bool.eq_iff_iff]; simp; omega
    · dsimp only at hge
      refine hJ2 _ _ ⟨rfl, ?_⟩
      rw [decide_eq_false (by omega)]
end Go.Proofs.YtmkgcdgpokidjaaGreat

/- Chapter 3: so many numbers. -/
namespace Go.Proofs.YtmkgcdgpokidjaaGreat
open Go.Eng

def short : Value := .iface 129 (.agg #[])
theorem must_ok {p0 : Sl} {g h : Hp} {bs : List Int} (hg : g.sub h) (r : Row (cI .u8) g p0 bs) (hb : Bytes bs) (hcap : bs.length ≤ p0.cap) (hl : bs.length ≤ 1000000) {Q : Int × Sl → Hp → Prop} {S : Value → Hp → Prop}
    (hq : ∀ v k, firstV bs = some (v, k) → Q (v, ⟨cutA p0.a k p0.cap 1, p0.len - k, p0.cap - k⟩) h) (hs : firstV bs = none → S short h) :
    callXP Tryz.prog 81 [Value.slice p0.a p0.len p0.cap] (tupC [cI .i64, cSl]) h Q S := by
  refine c81 ?_
  unfold F81
  refine first_ok hg r hb hcap hl ?_
  cases hv : firstV bs with
  | none =>
    rw [firstR_none hv]
    refine join_i (fun _ _ => False) (fun _ _ h => h.elim) fun J hJ => ?_
    exact cond_t rfl (hs hv)
  | some x =>
    obtain ⟨v, k⟩ := x
    obtain ⟨_, _, _, hk, _⟩ := firstV_inv hb hv
    rw [firstR_some hv]
    refine join_i (fun _ h' => h' = h) ?_ fun J hJ => cond_f rfl (hJ _ _ rfl)
    rintro _ h' rfl
    refine ⟨Int.natCast_nonneg k, by have := r.1; dsimp only; omega, ?_⟩
    rw [show ((v, (k : Int), true).2.1).toNat = k by simp]
    exact hq v k hv
theorem row_from {g : Hp} {p : Sl} {bs : List Int} (r : Row (cI .u8) g p bs) (hcap : bs.length ≤ p.cap) {k : Nat} (hk : k ≤ bs.length) : Row (cI .u8) g ⟨cutA p.a k p.cap 1, p.len - k, p.cap - k⟩ (bs.drop k) := by
  have hl := r.1
  have r1 := r.cut (k := k) (m := p.len) (cap' := p.cap - k) (by omega) (by omega) hcap rfl (z := 1) rfl
  rwa [List.take_of_length_le (by simp; omega)] at r1
theorem getd_none {a b : Addr} {h : Hp} {K : Hp → Prop} (hk : K h) : deferP Tryz.prog 80 [Value.pointer (some a), Value.pointer (some b)] none h K := by
  refine c80_0 ?_
  unfold F80_0
  exact hk
theorem getd_some {b1 b2 : Nat} {v1 v2 : Value} {e1 e2 : TypeId} {h : Hp} {l : List Hp} (o : On h (ob b1 [v1] e1 :: ob b2 [v2] e2 :: l)) {K : Hp → Prop} (hk : ∀ h', On h' (ob b1 [Value.slice none 0 0] e1 :: ob b2 [Value.int .i64 2] e2 :: l) → K h') :
    deferP Tryz.prog 80 [Value.pointer (some ⟨b1, 0, none⟩), Value.pointer (some ⟨b2, 0, none⟩)] (some short) h K := by
  refine c80_1 ?_
  unfold F80_1
  refine join_i (fun _ h' => h' = h) ?_ fun J hJ => hJ _ _ rfl
  rintro _ h' rfl
  refine store_ob (vs' := [Value.slice none 0 0]) (cd := cSl) (i := 0) (x := (⟨none, 0, 0⟩ : Sl)) o rfl rfl (Nat.le_refl 1) fun h1 o1 => ?_
  refine store_ob (vs' := [Value.int .i64 2]) (cd := cI .i64) (i := 0) (x := (2 : Int)) o1.swap rfl rfl (Nat.le_refl 1) fun h2 o2 => ?_
  exact hk h2 o2.swap
theorem get_ok {p0 : Sl} {n : Int} {g h : Hp} {l : List Hp} {bs : List Int} (o : On h l) (hg : g ∈ l) (r : Row (cI .u8) g p0 bs) (hb : Bytes bs) (hcap : bs.length ≤ p0.cap) (hl : bs.length ≤ 1000000) {Q : Sl × Int → Hp → Prop}
    (h0 : getV bs n = none → ∀ h', On h' l → Q (⟨none, 0, 0⟩, 2) h') (h1 : ∀ ns, getV bs n = some ns → ∀ s d h', On h' (d :: l) → Own (cI .i64) d s ns → Q (s, 0) h') :
    callP Tryz.prog 50 [Value.slice p0.a p0.len p0.cap, Value.int .i64 n] (tupC [cSl, cI .i64]) h Q := by
  refine c50 ?_
  unfold F50
  refine alloc_ob o fun k1 h2 o2 => ?_
  refine alloc_ob o2 fun k2 h3 o3 => ?_
  have o3' : On h3 (ob k1 [Value.slice none 0 0] 105 :: ob k2 [Value.int .i64 0] 66 :: Hp.emp :: l) := (o3.emp.pull 2 rfl).pick [0, 2, 1] 3 (by decide) (by decide)
  -- what is left of a panic
  have fail : ∀ {v1 : Value} {d h' : Hp}, getV bs n = none → On h' (ob k1 [v1] 105 :: ob k2 [Value.int .i64 0] 66 :: d :: l) →
      deferP Tryz.prog 80 [Value.pointer (some ⟨k1, 0, none⟩), Value.pointer (some ⟨k2, 0, none⟩)] (some short) h' fun h10 =>
        loadP cSl ⟨k1, 0, none⟩ h10 fun s4 => loadP (cI .i64) ⟨k2, 0, none⟩ h10 fun n1 => Q (s4, n1) h10 := by
    intro v1 d h' hv o'
    refine getd_some o' fun h5 o5 => ?_
    refine load_ob (x := (⟨none, 0, 0⟩ : Sl)) o5 0 rfl rfl ?_
    refine load_ob (cd := cI .i64) (x := (2 : Int)) o5 1 rfl rfl ?_
    exact h0 hv h5 o5.tail.tail.tail
  refine join_i (fun _ h' => h' = h3 ∧ ¬ n < 0) ?_ fun J3 hJ3 => ?_
  · rintro _ h' ⟨rfl, hn⟩
    have hgv : getV bs n = getN n.toNat bs := by unfold getV; rw [if_neg hn]
    refine loop_i (fun s h' => ∃ (bs' ns : List Int) (sl : Sl) (d : Hp), Row (cI .u8) g s bs' ∧ Bytes bs' ∧ bs'.length ≤ s.cap ∧ ns.length + bs'.length ≤ bs.length ∧ ns.length ≤ n.toNat ∧ getN n.toNat bs = (getN (n.toNat - ns.length) bs').map (ns ++ ·) ∧
        On h' (ob k1 [sv sl] 105 :: ob k2 [Value.int .i64 0] 66 :: d :: l) ∧ Own (cI .i64) d sl ns) (fun s => s.len)
      ⟨bs, [], ⟨none, 0, 0⟩, Hp.emp, r, hb, hcap, by simp, Nat.zero_le _, by simp, o3', Own.nil _⟩ ?_
    rintro J1 s h4 again ⟨bs', ns, sl, d, rs, hb', hcap', hlen, hnl, hget, o4, wd⟩
    have hsl : sl.len = ns.length := wd.1
    have hsl2 : s.len = bs'.length := rs.1
    refine load_ob (x := sl) o4 0 rfl rfl ?_
    refine cond_d (fun hlt => ?_) fun hge => ?_
    · have hsucc : n.toNat - ns.length = (n.toNat - ns.length - 1) + 1 := by omega
      refine must_ok (o4.mem (by simp [hg])) rs hb' hcap' (by omega) (fun v k hv => ?_) fun hv => ?_
      · obtain ⟨_, _, _, hk, hk0⟩ := firstV_inv hb' hv
        refine load_ob (x := sl) o4 0 rfl rfl ?_
        refine alloc_ob o4 fun k3 h5 o5 => ?_
        have rv : Row (cI .i64) (ob k3 [Value.int .i64 v] 2) ⟨some ⟨k3, 0, none⟩, 1, 1⟩ [v] := row_ob rfl rfl
        have o5' := o5.pull 3 rfl
        refine append_own (s := sl) (t := ⟨some ⟨k3, 0, none⟩, 1, 1⟩) o5' rfl wd (by decide) rv (o5'.get (i := 1) rfl) (by unfold roomP; simp; omega) fun d6 p6 n6 m6 h6 o6 w6 => ?_
        refine store_ob (vs' := [Value.slice p6 n6 m6]) (cd := cSl) (i := 0) (x := (⟨p6, n6, m6⟩ : Sl)) (o6.pull 2 rfl) rfl rfl (Nat.le_refl 1) fun h7 o7 => ?_
        refine again _ _ ⟨bs'.drop k, ns ++ [v], ⟨p6, n6, m6⟩, d6, row_from rs hcap' hk, hb'.drop k, by simp; omega, by simp; omega, by simp; omega, ?_, o7.pick [0, 3, 1] 4 (by decide) (by decide), w6⟩ (by dsimp only; omega)
        rw [hget, hsucc, getN_succ_some hv, List.length_append, List.length_singleton, show n.toNat - (ns.length + 1) = n.toNat - ns.length - 1 by omega, Option.map_map]
        congr 1
        funext x
        simp
      · refine fail ?_ o4
        rw [hgv, hget, hsucc, getN_succ_none hv]; rfl
    · have hz : n.toNat - ns.length = 0 := by omega
      rw [hz] at hget
      refine join_i (fun _ h' => h' = h4 ∧ bs' = []) ?_ fun J2 hJ2 => ?_
      · rintro _ h5 ⟨rfl, hnil⟩
        refine load_ob (x := sl) o4 0 rfl rfl ?_
        refine store_ob (vs' := [sv sl]) (cd := cSl) (i := 0) (x := sl) o4 rfl rfl (Nat.le_refl 1) fun h6 o6 => ?_
        refine store_ob (vs' := [Value.int .i64 0]) (cd := cI .i64) (i := 0) (x := (0 : Int)) o6.swap rfl rfl (Nat.le_refl 1) fun h7 o7 => ?_
        refine getd_none ?_
        refine load_ob (x := sl) o7 1 rfl rfl ?_
        refine load_ob (cd := cI .i64) (x := (0 : Int)) o7 0 rfl rfl ?_
        refine h1 ns ?_ sl d h7 o7.tail.tail wd
        rw [hgv, hget, hnil]
        simp [getN]
      · refine cond_d (fun hpos => ?_) fun hpos => hJ2 _ _ ⟨rfl, List.length_eq_zero_iff.1 (by omega)⟩
        refine fail ?_ o4
        rw [hgv, hget]
        cases bs' with
        | nil => simp at hsl2; omega
        | cons c bs' => rfl
  · refine cond_d (fun hn => ?_) fun hn => hJ3 _ _ ⟨rfl, hn⟩
    refine fail ?_ o3'
    unfold getV; rw [if_pos hn]
theorem rget_ok {p0 : Sl} {n : Int} {g h : Hp} {l : List Hp} {bs : List Int} (o : On h l) (hg : g ∈ l) (r : Row (cI .u8) g p0 bs) (hb : Bytes bs) (hcap : bs.length ≤ p0.cap) (hl : bs.length ≤ 1000000) {Q : Sl × Int → Hp → Prop}
    (h0 : getV bs n = none → ∀ h', On h' l → Q (⟨none, 0, 0⟩, 2) h') (h1 : ∀ ns, getV bs n = some ns → ∀ s d h', On h' (d :: l) → Own (cI .i64) d s ns → Q (s, 0) h') :
    callP Tryz.prog 59 [Value.slice p0.a p0.len p0.cap, Value.int .i64 n] (tupC [cSl, cI .i64]) h Q := by
  refine c59 ?_
  unfold F59
  refine loop_i (fun z h' => ∃ (bs' ns : List Int) (d : Hp), Row (cI .u8) g z.1 bs' ∧ Bytes bs' ∧ bs'.length ≤ z.1.cap ∧ ns.length + bs'.length ≤ bs.length ∧ ns.length ≤ n.toNat ∧ getN n.toNat bs = (getN (n.toNat - ns.length) bs').map (ns ++ ·) ∧
      z.2.2 = ns.length ∧ On h' (d :: l) ∧ Own (cI .i64) d z.2.1 ns) (fun z => z.1.len)
    ⟨bs, [], Hp.emp, r, hb, hcap, by simp, Nat.zero_le _, by simp, rfl, o.emp, Own.nil _⟩ ?_
  rintro J1 ⟨s, sl, z⟩ h4 again ⟨bs', ns, d, rs, hb', hcap', hlen, hnl, hget, hz, o4, wd⟩
  dsimp only at rs hcap' hz wd
  subst hz
  have hsl2 : s.len = bs'.length := rs.1
  refine cond_d (fun hlt => ?_) fun hge => ?_
  · dsimp only at hlt
    have hgv : getV bs n = getN n.toNat bs := by unfold getV; rw [if_neg (by omega)]
    have hsucc : n.toNat - ns.length = (n.toNat - ns.length - 1) + 1 := by omega
    refine rfirst_ok o4 (by simp [hg]) rs hb' hcap' (by omega) fun h5 o5 => ?_
    cases hv : firstV bs' with
    | none =>
      rw [firstR_none hv]
      refine cond_t rfl (h0 ?_ h5 o5.tail)
      rw [hgv, hget, hsucc, getN_succ_none hv]; rfl
    | some x =>
      obtain ⟨v, k⟩ := x
      obtain ⟨_, _, _, hk, hk0⟩ := firstV_inv hb' hv
      rw [firstR_some hv]
      refine cond_f rfl ?_
      refine alloc_ob o5 fun k3 h6 o6 => ?_
      have rv : Row (cI .i64) (ob k3 [Value.int .i64 v] 2) ⟨some ⟨k3, 0, none⟩, 1, 1⟩ [v] := row_ob rfl rfl
      refine append_own (s := sl) (t := ⟨some ⟨k3, 0, none⟩, 1, 1⟩) o6.swap rfl wd (by decide) rv (o6.get (i := 0) rfl) (by unfold roomP; simp; omega) fun d6 p6 n6 m6 h7 o7 w6 => ?_
      refine ⟨Int.natCast_nonneg k, by dsimp only; omega, ?_⟩
      have hkk : ((v, (k : Int), true).2.1).toNat = k := by simp
      refine again _ _ ⟨bs'.drop k, ns ++ [v], d6, ?_, hb'.drop k, ?_, by simp; omega, by simp; omega, ?_, ?_, o7.sublist (by simp), w6⟩ (by dsimp only; simp; omega)
      · dsimp only [Int.toNat_natCast]
        exact row_from rs hcap' hk
      · dsimp only [Int.toNat_natCast]
        simp; omega
      · rw [hget, hsucc, getN_succ_some hv, List.length_append, List.length_singleton, show n.toNat - (ns.length + 1) = n.toNat - ns.length - 1 by omega, Option.map_map]
        congr 1
        funext x
        simp
      · dsimp only; rw [w64n (by omega)]; simp
  · dsimp only at hge
    refine join_i (fun t h' => h' = h4 ∧ t = decide (n < 0 ∨ 0 < bs'.length)) ?_ fun J2 hJ2 => ?_
    · rintro t h5 ⟨rfl, rfl⟩
      refine cond_d (fun hbad => ?_) fun hok => ?_
      · refine h0 ?_ h5 o4.tail
        unfold getV
        split
        · rfl
        · rw [hget, show n.toNat - ns.length = 0 by omega]
          cases bs' with
          | nil => simp at hbad; omega
          | cons c bs' => rfl
      · have hnil : bs' = [] := List.length_eq_zero_iff.1 (by omega)
        refine h1 ns ?_ _ d h5 o4 wd
        unfold getV
        rw [if_neg (by omega), hget, show n.toNat - ns.length = 0 by omega, hnil]
        simp [getN]
    · refine cond_d (fun hn => hJ2 _ _ ⟨rfl, by rw [decide_eq_true (.inl hn)]⟩) fun hn => hJ2 _ _ ⟨rfl, ?_⟩
      dsimp only
      rw [Bool.eq_iff_iff]; simp; omega
theorem get3 : getV [1, 216, 4] 2 = some [-1, 300] := by
  have h1 : putV [-1, 300] = [1, 216, 4] := by
    simp [putV, one3, zigV, grp_lt, grp_ge]
  have h2 : getN 2 (putV [-1, 300]) = some [-1, 300] := getN_put [-1, 300] [] (by unfold I64; decide)
  rw [h1] at h2
  exact h2
end Go.Proofs.YtmkgcdgpokidjaaGreat

/- Chapter 3: the laws. -/
namespace Go.Proofs.YtmkgcdgpokidjaaGreat
open Go.Eng

theorem getN_more : ∀ (l : List Int) (k : Nat), (∀ n ∈ l, I64 n) → getN (l.length + (k + 1)) (putV l) = none
  | [], k, _ => by rw [List.length_nil, Nat.zero_add]; exact getN_succ_none rfl
  | n :: l, k, h => by
    have h1 := firstV_one (h n (by simp)) (putV l)
    rw [← putV_cons] at h1
    rw [List.length_cons, show l.length + 1 + (k + 1) = (l.length + (k + 1)) + 1 by omega, getN_succ_some h1, putV_cons, List.drop_append_of_le_length (Nat.le_refl _), List.drop_length, List.nil_append, getN_more l k fun x hx => h x (by simp [hx])]
    rfl
theorem getV_put {l : List Int} (h : ∀ n ∈ l, I64 n) {n : Int} (hn : n = l.length) : getV (putV l) n = some l := by
  subst hn; unfold getV; rw [if_neg (by omega)]; exact getN_put l [] h
theorem getV_more {l : List Int} (h : ∀ n ∈ l, I64 n) {n : Int} (hn : n = (l.length + 1 : Nat)) : getV (putV l) n = none := by
  subst hn; unfold getV; rw [if_neg (by omega)]; exact getN_more l 0 h
theorem firstV_app {xs ys : List Int} {v : Int} {k : Nat} (hb : Bytes xs) (h : firstV xs = some (v, k)) : firstV (xs ++ ys) = some (v, k) := by
  obtain ⟨a1, a2, a3, a4, _⟩ := firstV_inv hb h
  have : xs ++ ys = one3 v ++ (xs.drop k ++ ys) := by rw [← a2, ← List.append_assoc, List.take_append_drop]
  rw [this, firstV_one a1, a3]
theorem firstV_short {v : Int} (h : I64 v) {k : Nat} (hk : k < (one3 v).length) : firstV ((one3 v).take k) = none := by
  cases hf : firstV ((one3 v).take k) with
  | none => rfl
  | some x =>
    obtain ⟨w, j⟩ := x
    have hb : Bytes ((one3 v).take k) := Bytes.take (fun b hb => grp_byte _ b hb) k
    have h1 := firstV_app (ys := (one3 v).drop k) hb hf
    rw [List.take_append_drop] at h1
    have h2 := firstV_one h []
    rw [List.append_nil, h1] at h2
    cases h2
    obtain ⟨_, _, _, a4, _⟩ := firstV_inv hb hf
    rw [List.length_take] at a4
    omega
theorem grp_split : ∀ z : Nat, ∃ (ini : List Int) (c : Int), grp z = ini ++ [c] ∧ (∀ b ∈ ini, 128 ≤ b ∧ b < 256) ∧ 0 ≤ c ∧ c < 128 := by
  intro z
  induction z using Nat.strongRecOn with
  | _ z ih =>
    by_cases hz : z < 128
    · exact ⟨[], z, by rw [grp_lt hz]; rfl, (fun b hb => by cases hb), by omega, by omega⟩
    · obtain ⟨ini, c, h1, h2, h3, h4⟩ := ih (z / 128) (by omega)
      refine ⟨((z % 128 + 128 : Nat) : Int) :: ini, c, by rw [grp_ge (by omega), h1]; rfl, fun b hb => ?_, h3, h4⟩
      rcases List.mem_cons.1 hb with rfl | hb
      · omega
      · exact h2 b hb
theorem firstG_nought : ∀ (xs : List Int) (i z : Nat), (∀ b ∈ xs, 128 ≤ b) → (0 < i ∨ xs ≠ []) → firstG i z (xs ++ [0]) = none
  | [], i, z, _, h => firstG_bad (by omega) (.inl ⟨rfl, by simpa using h⟩)
  | x :: xs, i, z, hx, _ => by
    by_cases h10 : 10 ≤ i
    · show firstG i z (x :: (xs ++ [0])) = none
      unfold firstG
      rw [if_pos h10]
    · show firstG i z (x :: (xs ++ [0])) = none
      rw [firstG_more (by omega) (hx x (by simp))]
      exact firstG_nought xs _ _ (fun b hb => hx b (by simp [hb])) (.inl (by omega))
theorem i64_of {W : World} {n : Int} (h : Opn Tryz.prog W 2 [.int .i64 n]) : I64 n := by
  obtain ⟨x, hx, ok⟩ := open_flat (d := 1) (ls := [(.i .i64, 2)]) h (by kernel_rfl)
  have e : n = x := by
    have : [Value.int .i64 n] = [Value.int .i64 x] := hx
    simpa using this
  rw [e]
  exact wfI64 ok
end Go.Proofs.YtmkgcdgpokidjaaGreat
