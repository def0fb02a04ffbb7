/- Sums, bytes, arguments: what the laws share. -/
import Derived.Test.YtmkgcdgpokidjaaGreatFA
import Derived.Test.YtmkgcdgpokidjaaGreatEAA
set_option linter.unusedVariables false
namespace Go.Proofs.YtmkgcdgpokidjaaGreat
open Go.Eng

/-- A sum with a byte more. -/
def nextV (s b : Int) : Int :=
  orI .u32 (shlI .u32 ((IntKind.u32.wrap (shrI .u32 s 16 + (IntKind.u32.wrap (IntKind.u32.wrap (andI .u32 s 65535 + IntKind.u32.wrap b) + 1)).tmod 65521)).tmod 65521) 16)
    ((IntKind.u32.wrap (IntKind.u32.wrap (andI .u32 s 65535 + IntKind.u32.wrap b) + 1)).tmod 65521)
/-- A link, before it is mixed. -/
def mixV (x b : Int) : Int := IntKind.u64.wrap (xorI .u64 x (IntKind.u64.wrap b) * 1099511628211)
def chainV (last : Int) (bs : List Int) : Int :=
  let x := bs.foldl mixV (xorI .u64 last 1469598103934665603)
  xorI .u64 x (shrI .u64 x 29)
theorem next_ok {s b : Int} {h : Hp} {Q : Int → Hp → Prop} (hq : Q (nextV s b) h) : callP Tryz.prog 94 [Value.int .u32 s, Value.int .u8 b] (cI .u32) h Q := by
  refine c94 ?_
  unfold F94
  exact ⟨by decide, by decide, by decide, by decide, hq⟩
theorem rnext_ok {s b : Int} {h : Hp} {Q : Int → Hp → Prop} (hq : Q (nextV s b) h) : callP Tryz.prog 100 [Value.int .u32 s, Value.int .u8 b] (cI .u32) h Q := by
  refine c100 ?_
  unfold F100
  exact ⟨by decide, by decide, by decide, by decide, hq⟩
theorem of_ok {p0 : Sl} {g h : Hp} {ss : List Sl} {bss : List (List Int)} (hg : g.sub h) (r : Row cSl g p0 ss) (rr : Rows2 g ss bss) (hl : ss.length ≤ 9223372036854775807) (hb : ∀ bs ∈ bss, bs.length ≤ 9223372036854775807)
    {Q : Int → Hp → Prop} (hq : Q (bss.flatten.foldl nextV 0) h) : callP Tryz.prog 77 [Value.slice p0.a p0.len p0.cap] (cI .u32) h Q := by
  have hlen := rr.len
  refine c77 ?_
  unfold F77
  refine loop_i (fun z h' => ∃ i : Nat, z.2 = i ∧ i ≤ ss.length ∧ z.1 = (bss.take i).flatten.foldl nextV 0 ∧ h' = h) (fun z => ss.length - z.2.toNat) ⟨0, rfl, Nat.zero_le _, rfl, rfl⟩ ?_
  rintro J ⟨s, n⟩ h' again ⟨i, hi, hle, hs, rfl⟩
  dsimp only at hi hs
  subst hi hs
  refine cond_d (fun hlt => ?_) (fun hge => ?_)
  · dsimp only at hlt
    rw [r.1] at hlt
    have hlt : i < ss.length := by omega
    have hi : ss[i]? = some ss[i] := List.getElem?_eq_getElem hlt
    obtain ⟨bs, hbi, rb⟩ := rr.get i _ hi
    refine idx_row r (by omega) (by omega) fun a ha => load_row r hg rfl ha (i := i) hi (by simp) ?_
    refine loop_i (fun z h'' => ∃ j : Nat, z.2 = j ∧ j ≤ bs.length ∧ z.1 = (bs.take j).foldl nextV ((bss.take i).flatten.foldl nextV 0) ∧ h'' = h') (fun z => bs.length - z.2.toNat) ⟨0, rfl, Nat.zero_le _, rfl, rfl⟩ ?_
    rintro J2 ⟨s2, n2⟩ h'' again2 ⟨j, hj, hle2, hs2, rfl⟩
    dsimp only at hj hs2
    subst hj hs2
    have hbl := hb bs (List.mem_of_getElem? hbi)
    refine cond_d (fun hlt2 => ?_) (fun hge2 => ?_)
    · dsimp only at hlt2
      rw [rb.1] at hlt2
      have hlt2 : j < bs.length := by omega
      have hbj : bs[j]? = some bs[j] := List.getElem?_eq_getElem hlt2
      refine idx_row rb (by omega) (by omega) fun a2 ha2 => load_row rb hg rfl ha2 (i := j) hbj (by simp) ?_
      refine next_ok (again2 _ _ ⟨j + 1, ?_, by omega, ?_, rfl⟩ ?_)
      · dsimp only; exact w64n (by omega)
      · exact (take_foldl nextV _ bs hbj).symm
      · dsimp only; rw [w64n (by omega)]; omega
    · dsimp only at hge2
      rw [rb.1] at hge2
      have hj : j = bs.length := by omega
      subst hj
      refine again _ _ ⟨i + 1, ?_, by omega, ?_, rfl⟩ ?_
      · dsimp only; exact w64n (by omega)
      · dsimp only
        rw [List.take_length, List.take_add_one, hbi, List.flatten_append, List.foldl_append]
        simp
      · dsimp only; rw [w64n (by omega)]; omega
  · dsimp only at hge
    rw [r.1] at hge
    have : i = bss.length := by omega
    subst this
    rw [List.take_length]
    exact hq
theorem len_lt {n m : Nat} (h : n ≤ m) (hm : m ≤ 9223372036854775806) : n < 9223372036854775807 := by omega
theorem rof_ok {p0 : Sl} {g h : Hp} {bs : List Int} (hg : g.sub h) (r : Row (cI .u8) g p0 bs) (hl : bs.length ≤ 9223372036854775807) {Q : Int → Hp → Prop} (hq : Q (bs.foldl nextV 0) h) :
    callP Tryz.prog 92 [Value.slice p0.a p0.len p0.cap] (cI .u32) h Q := by
  refine c92 ?_
  unfold F92
  refine loop_i (fun z h' => ∃ i : Nat, z.2 = i ∧ i ≤ bs.length ∧ z.1 = (bs.take i).foldl nextV 0 ∧ h' = h) (fun z => bs.length - z.2.toNat) ⟨0, rfl, Nat.zero_le _, rfl, rfl⟩ ?_
  rintro J ⟨s, n⟩ h' again ⟨i, hi, hle, hs, rfl⟩
  dsimp only at hi hs
  subst hi hs
  refine cond_d (fun hlt => ?_) (fun hge => ?_)
  · dsimp only at hlt
    rw [r.1] at hlt
    have hlt : i < bs.length := by omega
    have hi : bs[i]? = some bs[i] := List.getElem?_eq_getElem hlt
    refine idx_row r (by omega) (by omega) fun a ha => load_row r hg rfl ha (i := i) hi (by simp) ?_
    refine rnext_ok (again _ _ ⟨i + 1, ?_, by omega, ?_, rfl⟩ ?_)
    · dsimp only; exact w64n (by omega)
    · exact (take_foldl nextV _ bs hi).symm
    · dsimp only; rw [w64n (by omega)]; omega
  · dsimp only at hge
    rw [r.1] at hge
    have : i = bs.length := by omega
    subst this
    rw [List.take_length]
    exact hq
/-- One row, handed in as a row of rows. -/
theorem of1_ok {b : Nat} {e : TypeId} {l : List Hp} {s : Sl} {h : Hp} {bs : List Int} (o : On h l) (i : Nat) (hi : l[i]? = some (ob b [Value.slice s.a s.len s.cap] e)) (r : Row (cI .u8) h s bs) (hl : bs.length ≤ 9223372036854775807)
    {Q : Int → Hp → Prop} (hq : Q (bs.foldl nextV 0) h) : callP Tryz.prog 77 [Value.slice (some ⟨b, 0, none⟩) 1 1] (cI .u32) h Q := by
  have r1 : Row cSl h ⟨some ⟨b, 0, none⟩, 1, 1⟩ [s] := (row_ob (cd := cSl) (xs := [s]) rfl rfl).sub (o.get hi)
  refine of_ok (p0 := ⟨some ⟨b, 0, none⟩, 1, 1⟩) (ss := [s]) (bss := [bs]) (Hp.sub_refl h) r1 ⟨r, trivial⟩ (by simp) (by simpa using hl) ?_
  simpa using hq
/-! ### the laws -/
/-- What a law says of the heap that it found. -/
def Lawful (g : Hp) (v : Bool) (h' : Hp) : Prop := v = true ∧ g.sub h'
/-- A number of 64 digits. -/
def toB (x : Int) : BitVec 64 := BitVec.ofInt 64 x
theorem toB_nat (v : BitVec 64) : toB (v.toNat : Int) = v := by
  unfold toB
  rw [BitVec.ofInt_natCast, BitVec.ofNat_toNat, BitVec.setWidth_eq]
theorem wrap64 (n : Int) : IntKind.u64.wrap n = n % 18446744073709551616 := by
  simp [IntKind.wrap, IntKind.signed, IntKind.bits]
theorem toB_mod (n : Int) : toB (n % 18446744073709551616) = toB n := by
  apply BitVec.eq_of_toNat_eq
  simp only [toB, BitVec.toNat_ofInt]
  congr 1
  exact Int.emod_emod_of_dvd n (Int.dvd_refl _)
theorem toB_wrap (n : Int) : toB (IntKind.u64.wrap n) = toB n := by rw [wrap64, toB_mod]
theorem toB_xor (x y : Int) : toB (xorI .u64 x y) = toB x ^^^ toB y := by
  show toB (IntKind.u64.wrap ((BitVec.ofInt 64 x ^^^ BitVec.ofInt 64 y).toNat : Int)) = _
  rw [toB_wrap, toB_nat]; rfl
theorem toB_mul (x y : Int) : toB (x * y) = toB x * toB y := BitVec.ofInt_mul ..
theorem wrap64_range (n : Int) : 0 ≤ IntKind.u64.wrap n ∧ IntKind.u64.wrap n < 18446744073709551616 := by rw [wrap64]; omega
theorem xor_range (x y : Int) : 0 ≤ xorI .u64 x y ∧ xorI .u64 x y < 18446744073709551616 := wrap64_range _
theorem toB_inj {x y : Int} (hx : 0 ≤ x ∧ x < 18446744073709551616) (hy : 0 ≤ y ∧ y < 18446744073709551616) (h : toB x = toB y) : x = y := by
  have := congrArg BitVec.toNat h
  simp only [toB, BitVec.toNat_ofInt] at this
  omega
theorem toB_shr {x : Int} (hx : 0 ≤ x ∧ x < 18446744073709551616) : toB (shrI .u64 x 29) = toB x >>> 29 := by
  apply BitVec.eq_of_toNat_eq
  simp only [toB, BitVec.toNat_ofInt, BitVec.toNat_ushiftRight]
  show ((x.fdiv (2 ^ 29)) % _).toNat = _
  rw [Nat.shiftRight_eq_div_pow, Int.fdiv_eq_ediv_of_nonneg _ (by decide)]
  omega
theorem wrap32 (n : Int) : IntKind.u32.wrap n = n % 4294967296 := by
  simp [IntKind.wrap, IntKind.signed, IntKind.bits]
theorem and32 {s : Int} (h : 0 ≤ s ∧ s < 4294967296) : andI .u32 s 65535 = s % 65536 := by
  show IntKind.u32.wrap ((BitVec.ofInt 32 s &&& BitVec.ofInt 32 65535).toNat : Int) = _
  have e : (BitVec.ofInt 32 s &&& BitVec.ofInt 32 65535).toNat = s.toNat % 65536 := by
    rw [BitVec.toNat_and, BitVec.toNat_ofInt, show (BitVec.ofInt 32 65535).toNat = 2 ^ 16 - 1 from rfl, Nat.and_two_pow_sub_one_eq_mod]
    have : (s % ((2 ^ 32 : Nat) : Int)).toNat = s.toNat := by omega
    rw [this]
  rw [e, wrap32]
  omega
theorem shr32 {s : Int} (_h : 0 ≤ s) : shrI .u32 s 16 = s / 65536 := by
  show s.fdiv (2 ^ 16) = _
  rw [Int.fdiv_eq_ediv_of_nonneg _ (by decide)]
  rfl
theorem shl32 {s : Int} (h : 0 ≤ s ∧ s < 65536) : shlI .u32 s 16 = s * 65536 := by
  show IntKind.u32.wrap (s * 2 ^ 16) = _
  rw [wrap32]
  omega
theorem or32 {a b : Int} (ha : 0 ≤ a ∧ a < 65536) (hb : 0 ≤ b ∧ b < 65536) : orI .u32 (a * 65536) b = a * 65536 + b := by
  show IntKind.u32.wrap ((BitVec.ofInt 32 (a * 65536) ||| BitVec.ofInt 32 b).toNat : Int) = _
  have e : (BitVec.ofInt 32 (a * 65536) ||| BitVec.ofInt 32 b).toNat = 65536 * a.toNat + b.toNat := by
    rw [BitVec.toNat_or, BitVec.toNat_ofInt, BitVec.toNat_ofInt]
    have e1 : ((a * 65536) % ((2 ^ 32 : Nat) : Int)).toNat = 2 ^ 16 * a.toNat := by omega
    have e2 : (b % ((2 ^ 32 : Nat) : Int)).toNat = b.toNat := by omega
    rw [e1, e2, ← Nat.two_pow_add_eq_or_of_lt (by omega)]
  rw [e, wrap32]
  omega
/-- A sum whose low half is 'lo'. -/
def Low (s lo : Int) : Prop := 0 ≤ lo ∧ lo < 65521 ∧ ∃ hi : Int, 0 ≤ hi ∧ hi < 65521 ∧ s = hi * 65536 + lo
theorem low_next {s lo b : Int} (h : Low s lo) (hb : 0 ≤ b ∧ b < 256) : Low (nextV s b) ((lo + b + 1) % 65521) := by
  obtain ⟨h1, h2, hi, h3, h4, rfl⟩ := h
  have hl : (IntKind.u32.wrap (IntKind.u32.wrap (andI .u32 (hi * 65536 + lo) 65535 + IntKind.u32.wrap b) + 1)).tmod 65521 = (lo + b + 1) % 65521 := by
    rw [and32 (by omega), wrap32, wrap32, wrap32, Int.tmod_eq_emod_of_nonneg (by omega)]
    omega
  have hh : (IntKind.u32.wrap (shrI .u32 (hi * 65536 + lo) 16 + (lo + b + 1) % 65521)).tmod 65521 = (hi + (lo + b + 1) % 65521) % 65521 := by
    rw [shr32 (by omega), wrap32, Int.tmod_eq_emod_of_nonneg (by omega)]
    omega
  unfold nextV
  rw [hl, hh, shl32 (by omega), or32 (by omega) (by omega)]
  exact ⟨by omega, by omega, _, by omega, by omega, rfl⟩
/-- What the bytes add. -/
def adds (bs : List Int) : Int := bs.foldr (fun b n => b + 1 + n) 0
theorem adds_append (a b : List Int) : adds (a ++ b) = adds a + adds b := by
  induction a with
  | nil => simp [adds]
  | cons x a ih => simp only [adds, List.cons_append, List.foldr_cons] at ih ⊢; rw [ih]; omega
theorem low_fold : ∀ (bs : List Int) (s lo : Int), Low s lo → (∀ b ∈ bs, 0 ≤ b ∧ b < 256) → Low (bs.foldl nextV s) ((lo + adds bs) % 65521)
  | [], s, lo, h, _ => by
    have : (lo + adds []) % 65521 = lo := by
      have := h.1; have := h.2.1
      show (lo + 0) % 65521 = lo
      omega
    rw [this]; exact h
  | b :: bs, s, lo, h, hb => by
    have := low_fold bs _ _ (low_next h (hb b (by simp))) fun x hx => hb x (by simp [hx])
    have e : (lo + adds (b :: bs)) % 65521 = ((lo + b + 1) % 65521 + adds bs) % 65521 := by
      show (lo + (b + 1 + adds bs)) % 65521 = _
      omega
    rw [e]; exact this
theorem low_zero : Low 0 0 := ⟨by omega, by omega, 0, by omega, by omega, by omega⟩
theorem low_inj {s l m : Int} (h : Low s l) (k : Low s m) : l = m := by
  obtain ⟨h1, h2, hi, h3, h4, h5⟩ := h
  obtain ⟨k1, k2, hi', k3, k4, k5⟩ := k
  omega
theorem xor8_range (x y : Int) : 0 ≤ xorI .u8 x y ∧ xorI .u8 x y < 256 := by
  show 0 ≤ IntKind.u8.wrap _ ∧ IntKind.u8.wrap _ < 256
  simp [IntKind.wrap, IntKind.signed, IntKind.bits]
  omega
theorem xor8_ne {x y : Int} (hx : 0 ≤ x ∧ x < 256) (hy : 0 ≤ y ∧ y < 256) (h0 : y ≠ 0) : xorI .u8 x y ≠ x := by
  intro h
  have h : IntKind.u8.wrap ((BitVec.ofInt 8 x ^^^ BitVec.ofInt 8 y).toNat : Int) = x := h
  have e : ((BitVec.ofInt 8 x ^^^ BitVec.ofInt 8 y).toNat : Int) = x := by
    have := (BitVec.ofInt 8 x ^^^ BitVec.ofInt 8 y).isLt
    simp only [IntKind.wrap, IntKind.signed, IntKind.bits, Bool.false_and, Bool.false_eq_true, if_false] at h
    omega
  have e2 : BitVec.ofInt 8 x ^^^ BitVec.ofInt 8 y = BitVec.ofInt 8 x := by
    apply BitVec.eq_of_toNat_eq
    rw [BitVec.toNat_ofInt]
    omega
  have e3 := congrArg (BitVec.ofInt 8 x ^^^ ·) e2
  simp only [← BitVec.xor_assoc, BitVec.xor_self, BitVec.zero_xor] at e3
  have e4 := congrArg BitVec.toNat e3
  rw [BitVec.toNat_ofInt] at e4
  simp at e4
  omega
/-- One byte turned turns the sum. -/
theorem turned_ne {bs : List Int} (hb : ∀ b ∈ bs, 0 ≤ b ∧ b < 256) {j : Nat} {x y : Int} (hj : bs[j]? = some x) (hy : 0 ≤ y ∧ y < 256) (h0 : y ≠ 0) : (bs.set j (xorI .u8 x y)).foldl nextV 0 ≠ bs.foldl nextV 0 := by
  have hx := hb x (List.mem_of_getElem? hj)
  have hr := xor8_range x y
  have hne := xor8_ne hx hy h0
  have hlt : j < bs.length := (List.getElem?_eq_some_iff.1 hj).1
  have hset : bs.set j (xorI .u8 x y) = bs.take j ++ (xorI .u8 x y :: bs.drop (j + 1)) := by rw [List.set_eq_take_append_cons_drop, if_pos hlt]
  have hbs : bs = bs.take j ++ (x :: bs.drop (j + 1)) := by
    have : bs[j] = x := (List.getElem?_eq_some_iff.1 hj).2
    conv => lhs; rw [← List.take_append_drop j bs, List.drop_eq_getElem_cons hlt, this]
  intro h
  have l1 := low_fold (bs.set j (xorI .u8 x y)) 0 0 low_zero fun b hb' => by
    rw [hset] at hb'
    rcases List.mem_append.1 hb' with hb' | hb'
    · exact hb b (List.mem_of_mem_take hb')
    · rcases List.mem_cons.1 hb' with rfl | hb'
      · exact hr
      · exact hb b (List.mem_of_mem_drop hb')
  have l2 := low_fold bs 0 0 low_zero hb
  rw [h] at l1
  have := low_inj l1 l2
  have e1 : adds (bs.set j (xorI .u8 x y)) = adds (bs.take j) + (xorI .u8 x y + 1 + adds (bs.drop (j + 1))) := by rw [hset, adds_append]; rfl
  have e2 : adds bs = adds (bs.take j) + (x + 1 + adds (bs.drop (j + 1))) := by
    conv => lhs; rw [hbs]
    rw [adds_append]; rfl
  rw [e1, e2] at this
  omega
theorem nought_ne {bs : List Int} (hb : ∀ b ∈ bs, 0 ≤ b ∧ b < 256) : ((0 : Int) :: bs).foldl nextV 0 ≠ bs.foldl nextV 0 := by
  intro h
  have l1 := low_fold ((0 : Int) :: bs) 0 0 low_zero fun b hb' => by
    rcases List.mem_cons.1 hb' with rfl | hb'
    · omega
    · exact hb b hb'
  have l2 := low_fold bs 0 0 low_zero hb
  rw [h] at l1
  have := low_inj l1 l2
  have e : adds ((0 : Int) :: bs) = 0 + 1 + adds bs := rfl
  rw [e] at this
  omega
theorem and64_range (x : Int) : 0 ≤ andI .i64 x 65535 ∧ andI .i64 x 65535 ≤ 65535 := by
  have e : andI .i64 x 65535 = IntKind.i64.wrap ((BitVec.ofInt 64 x &&& BitVec.ofInt 64 65535).toNat : Int) := rfl
  have h : (BitVec.ofInt 64 x &&& BitVec.ofInt 64 65535).toNat ≤ 65535 := by
    rw [BitVec.toNat_and]
    exact Nat.le_trans Nat.and_le_right (by decide)
  rw [e, w64 (by omega) (by omega)]
  omega
/-- A slice of bytes. -/
theorem bytes_of {W : World} {s : Sl} (h : Opn Tryz.prog W 27 [.slice s.a s.len s.cap]) :
    ∃ bs : List Int, Row (cI .u8) (hpOf W) s bs ∧ (∀ b ∈ bs, 0 ≤ b ∧ b < 256) ∧ bs.length ≤ 140737488351232 ∧ bs.length ≤ s.cap := by
  obtain ⟨h1, h2, h3, xs, hr, hx⟩ := open_row (d := 3) (e := 5) (ls := [(.i .u8, 5)]) (cd := cI .u8) id (fun _ => rfl) h (by kernel_rfl) (by kernel_rfl) (by kernel_rfl)
  have hb : Tryz.prog.bytesOf 5 = 1 := by kernel_rfl
  have hl : s.len = xs.length := hr.1
  refine ⟨xs, hr, fun b hb => ?_, ?_, by omega⟩
  · obtain ⟨y, hy0, hy⟩ := hx b hb
    have hby : b = y := hy0
    subst hby
    have : (Lit.int .u8 b).wf = true := hy
    simp [Lit.wf, IntKind.min, IntKind.max, IntKind.signed, IntKind.bits] at this
    omega
  · rw [hb] at h3
    have : reachBytes = 140737488351232 := by decide
    omega
/-- A slice of slices of bytes. -/
theorem rows_of {W : World} {s : Sl} (h : Opn Tryz.prog W 45 [.slice s.a s.len s.cap]) :
    ∃ (ss : List Sl) (bss : List (List Int)), Row cSl (hpOf W) s ss ∧ Rows2 (hpOf W) ss bss ∧ (∀ bs ∈ bss, (∀ b ∈ bs, 0 ≤ b ∧ b < 256) ∧ bs.length ≤ 140737488351232) ∧ ss.length ≤ 140737488351232 := by
  obtain ⟨h1, h2, h3, xs, hr, hx⟩ := open_row (d := 3) (e := 27) (ls := [(.sl, 27)]) (cd := cSl) id (fun _ => rfl) h (by kernel_rfl) (by kernel_rfl) (by kernel_rfl)
  have hb : Tryz.prog.bytesOf 27 = 24 := by kernel_rfl
  have hl : s.len = xs.length := hr.1
  obtain ⟨m, hm⟩ := All2.of (R := fun (s : Sl) (bs : List Int) => Row (cI .u8) (hpOf W) s bs ∧ (∀ b ∈ bs, 0 ≤ b ∧ b < 256) ∧ bs.length ≤ 140737488351232) xs fun x hx' => by
    obtain ⟨y, hy0, hy⟩ := hx x hx'
    have : x = y := hy0
    subst this
    obtain ⟨bs, a1, a2, a3, _⟩ := bytes_of (s := x) hy
    exact ⟨bs, a1, a2, a3⟩
  refine ⟨xs, m, hr, All2.mono (fun _ _ h => h.1) hm, ?_, ?_⟩
  · intro bs hbs
    obtain ⟨i, hi⟩ := List.getElem?_of_mem hbs
    have hlt : i < xs.length := by
      have := (List.getElem?_eq_some_iff.1 hi).1
      rw [hm.len]; exact this
    obtain ⟨b, hb1, hb2⟩ := hm.get i xs[i] (List.getElem?_eq_getElem hlt)
    rw [hi] at hb1
    cases hb1
    exact hb2.2
  · rw [hb] at h3
    have : reachBytes = 140737488351232 := by decide
    omega
/-- A slice as a value. -/
def sv (s : Sl) : Value := .slice s.a s.len s.cap
theorem clone_ok {p0 : Sl} {g h : Hp} {l : List Hp} {bs : List Int} (o : On h l) {i : Nat} (hi : l[i]? = some g) (r : Row (cI .u8) g p0 bs) (hl : bs.length ≤ 1000000) {Q : Sl → Hp → Prop}
    (hq : ∀ s d h', On h' (d :: l) → Own (cI .u8) d s bs → Q s h') : callP Tryz.prog 78 [Value.slice p0.a p0.len p0.cap] cSl h Q := by
  refine c78 ?_
  unfold F78
  refine cond_i (fun hn => ?_) fun _ => ?_
  · have ha : p0.a = none := Option.isNone_iff_eq_none.1 hn
    have : bs = [] := by
      have := r.2
      rw [ha] at this
      exact this
    subst this
    exact hq _ Hp.emp h o.emp (Own.nil _)
  · refine alloc_ob o fun k1 h1 o1 => ?_
    have w0 : Own (cI .u8) (ob k1 [] 5) ⟨some ⟨k1, 0, none⟩, 0, 0⟩ [] := own_ob (cd := cI .u8) (xs := []) (rest := []) rfl rfl rfl
    exact append_own (g := g) (s := ⟨some ⟨k1, 0, none⟩, 0, 0⟩) (t := p0) o1 rfl w0 (by decide) r (o1.get (i := i + 1) (by simpa using hi)) (by unfold roomP; simp; omega) fun c p k2 k3 h3 o3 w3 => hq _ c _ o3 w3
/-- Rows of one's own, each in its part. -/
def Owns : List Hp → List Sl → List (List Int) → Prop
  | [], [], [] => True
  | d :: ds, s :: ss, b :: q => Own (cI .u8) d s b ∧ Owns ds ss q
  | _, _, _ => False
theorem Owns.len : ∀ {ds : List Hp} {ss : List Sl} {q : List (List Int)}, Owns ds ss q → ss.length = q.length
  | [], [], [], _ => rfl
  | _ :: _, _ :: _, _ :: _, h => by simp [Owns.len h.2]
  | [], _ :: _, _, h => h.elim
  | [], [], _ :: _, h => h.elim
  | _ :: _, [], _, h => h.elim
  | _ :: _, _ :: _, [], h => h.elim
theorem Owns.push : ∀ {ds : List Hp} {ss : List Sl} {q : List (List Int)} {d : Hp} {s : Sl} {b : List Int}, Owns ds ss q → Own (cI .u8) d s b → Owns (ds ++ [d]) (ss ++ [s]) (q ++ [b])
  | [], [], [], _, _, _, _, h => ⟨h, trivial⟩
  | _ :: _, _ :: _, _ :: _, _, _, _, h, h' => ⟨h.1, Owns.push h.2 h'⟩
  | [], _ :: _, _, _, _, _, h, _ => h.elim
  | [], [], _ :: _, _, _, _, h, _ => h.elim
  | _ :: _, [], _, _, _, _, h, _ => h.elim
  | _ :: _, _ :: _, [], _, _, _, h, _ => h.elim
theorem one_at (b : Nat) (o : Obj) : Hp.one b o b = some o := by simp [Hp.one]
/-- A block that is marked can be read as it was. -/
theorem mark_ob {b : Nat} {vs : List Value} {e : TypeId} {h : Hp} {l : List Hp} (o : On h (ob b vs e :: l)) {K : Hp → Prop} (hk : ∀ h', On h' (Hp.one b (.cells vs.toArray e (frz vs.length (0, 0))) :: l) → K h') : markP ⟨b, 0, none⟩ h K := by
  refine ⟨vs.toArray, e, (0, 0), o.get (i := 0) rfl _ _ (ob_at b vs e), hk _ ?_⟩
  have := o.upd (ob_at b vs e) (.cells vs.toArray e (frz vs.toArray.size (0, 0)))
  unfold ob at this
  rw [one_upd] at this
  simpa using this
theorem row_one {cd : Cdc} {b : Nat} {e : TypeId} {fz : Nat × Nat} {n cap : Nat} {vs : List Value} {xs : List cd.T} (hv : vs = cellsL cd xs) (hn : n = xs.length) : Row cd (Hp.one b (.cells vs.toArray e fz)) ⟨some ⟨b, 0, none⟩, n, cap⟩ xs := by
  refine ⟨hn, ?_⟩
  subst hv
  exact rds_block (one_at b _) (by simp)
theorem strEq_self (s : ByteArray) : strEq s s = true := by simp [strEq]
theorem rds_row {cd : Cdc} {g h : Hp} {s : Sl} {xs : List cd.T} (r : Row cd g s xs) (hs : g.sub h) (hm : cd.mem = true) {a : Addr} (ha : s.a = some a) {i : Nat} {x : cd.T} (hx : xs[i]? = some x) {m : Nat} (hn : i * cd.n = m) : h.rds (a.add m) (cd.enc x).cells.toList := by
  have hr := r.2
  rw [ha] at hr
  subst hn
  have hl : ((cd.enc x).cells.toList).length = cd.n := by simpa using (enc_cells hm x).1
  exact Hp.sub_rds hs (Hp.rds_add hr _ (by rw [hl]; exact cellsL_part hm xs i x hx))
theorem i64s_of {W : World} {s : Sl} (h : Opn Tryz.prog W 105 [.slice s.a s.len s.cap]) : ∃ qs : List Int, Row (cI .i64) (hpOf W) s qs ∧ ∀ q ∈ qs, -9223372036854775808 ≤ q ∧ q ≤ 9223372036854775807 := by
  obtain ⟨_, _, _, xs, hr, hx⟩ := open_row (d := 3) (e := 2) (ls := [(.i .i64, 2)]) (cd := cI .i64) id (fun _ => rfl) h (by kernel_rfl) (by kernel_rfl) (by kernel_rfl)
  refine ⟨xs, hr, fun b hb => ?_⟩
  obtain ⟨y, hy0, hy⟩ := hx b hb
  have hby : b = y := hy0
  subst hby
  have : (Lit.int .i64 b).wf = true := hy
  simp [Lit.wf, IntKind.min, IntKind.max, IntKind.signed, IntKind.bits] at this
  omega
/-- A part of an element is loaded. -/
theorem load_part {cd cf : Cdc} {g h : Hp} {s : Sl} {xs : List cd.T} (r : Row cd g s xs) (hs : g.sub h) (hm : cd.mem = true) {a : Addr} (ha : s.a = some a) {i : Nat} {x : cd.T} (hx : xs[i]? = some x) {m k : Nat} (hn : i * cd.n = m) {y : cf.T}
    (hy : ((cd.enc x).cells.toList.drop k).take (cf.enc y).cells.toList.length = (cf.enc y).cells.toList) {K : cf.T → Prop} (h2 : K y) : loadP cf ((a.add m).add k) h K := by
  refine ⟨y, ?_, h2⟩
  have hr := r.2
  rw [ha] at hr
  subst hn
  have hl : ((cd.enc x).cells.toList).length = cd.n := by simpa using (enc_cells hm x).1
  exact Hp.sub_rds hs (Hp.rds_add (Hp.rds_add hr _ (by rw [hl]; exact cellsL_part hm xs i x hx)) _ hy)
end Go.Proofs.YtmkgcdgpokidjaaGreat
