/- Chapter 3: First, Get, of the program and of the document. -/
import Derived.Test.YtmkgcdgpokidjaaPackP
set_option linter.unusedVariables false
namespace Go.Proofs.Ytmkgcdgpokidjaa
open Go.Eng

/-! ### words of the machine -/
theorem pow7 (i : Nat) : (2 : Nat) ^ (7 * i) = 128 ^ i := by rw [Nat.pow_mul]
theorem shl_or {z d i : Nat} (hi : i ≤ 9) (hz : z < 128 ^ i) (hd : d * 128 ^ i < 18446744073709551616) : orI .u64 (z : Int) (shlI .u64 ((d : Nat) : Int) ((7 * i : Nat) : Int)) = ((z + d * 128 ^ i : Nat) : Int) := by
  have e1 : shlI .u64 ((d : Nat) : Int) ((7 * i : Nat) : Int) = ((d * 128 ^ i : Nat) : Int) := by
    show IntKind.u64.wrap ((d : Int) * 2 ^ (min ((7 * i : Nat) : Int).toNat 64)) = _
    rw [show min ((7 * i : Nat) : Int).toNat 64 = 7 * i by omega, wrap64]
    have : (d : Int) * 2 ^ (7 * i) = ((d * 128 ^ i : Nat) : Int) := by rw [← pow7]; simp
    rw [this]; omega
  rw [e1]
  show IntKind.u64.wrap ((BitVec.ofInt 64 (z : Int) ||| BitVec.ofInt 64 ((d * 128 ^ i : Nat) : Int)).toNat : Int) = _
  have hz' : z < 18446744073709551616 := by
    rcases pow128 i hi with e | e | e | e | e | e | e | e | e | ⟨_, e⟩ <;> (simp only [e] at hz; omega)
  have e2 : (BitVec.ofInt 64 (z : Int) ||| BitVec.ofInt 64 ((d * 128 ^ i : Nat) : Int)).toNat = z + d * 128 ^ i := by
    rw [BitVec.toNat_or, BitVec.ofInt_natCast, BitVec.ofInt_natCast, BitVec.toNat_ofNat, BitVec.toNat_ofNat, Nat.mod_eq_of_lt hz', Nat.mod_eq_of_lt hd, ← pow7, Nat.or_comm, Nat.mul_comm d]
    rw [← Nat.two_pow_add_eq_or_of_lt (by rw [pow7]; exact hz)]
    omega
  rw [e2, wrap64]
  have hsum : z + d * 128 ^ i < 18446744073709551616 := by
    rcases pow128 i hi with e | e | e | e | e | e | e | e | e | ⟨_, e⟩ <;> (simp only [e] at hz hd ⊢; omega)
  omega
theorem or_range (x y : Int) : 0 ≤ orI .u64 x y ∧ orI .u64 x y < 18446744073709551616 := wrap64_range _
theorem tmod128 {c : Int} (h : 0 ≤ c ∧ c < 256) : IntKind.u64.wrap (c.tmod 128) = ((c.toNat % 128 : Nat) : Int) := by
  rw [Int.tmod_eq_emod_of_nonneg h.1, wrap64]; omega
theorem back_eq {z : Nat} (h : z < 18446744073709551616) : xorI .i64 (IntKind.i64.wrap (shrI .u64 (z : Int) 1)) (IntKind.i64.wrap (0 - IntKind.i64.wrap (andI .u64 (z : Int) 1))) = zagV z := by
  have e1 : shrI .u64 (z : Int) 1 = ((z / 2 : Nat) : Int) := by
    show (z : Int).fdiv (2 ^ 1) = _
    rw [Int.fdiv_eq_ediv_of_nonneg _ (by decide)]; omega
  have e2 : andI .u64 (z : Int) 1 = ((z % 2 : Nat) : Int) := by
    show IntKind.u64.wrap ((BitVec.ofInt 64 (z : Int) &&& BitVec.ofInt 64 1).toNat : Int) = _
    rw [BitVec.toNat_and, BitVec.ofInt_natCast, BitVec.toNat_ofNat, show (BitVec.ofInt 64 1).toNat = 2 ^ 1 - 1 from rfl, Nat.and_two_pow_sub_one_eq_mod, Nat.mod_eq_of_lt h, wrap64]
    omega
  rw [e1, e2, w64 (n := ((z / 2 : Nat) : Int)) (by omega) (by omega), w64 (n := ((z % 2 : Nat) : Int)) (by omega) (by omega), w64 (by omega) (by omega)]
  show IntKind.i64.wrap ((BitVec.ofInt 64 ((z / 2 : Nat) : Int) ^^^ BitVec.ofInt 64 (0 - ((z % 2 : Nat) : Int))).toNat : Int) = _
  unfold zagV
  by_cases hp : z % 2 = 1
  · rw [if_pos hp, hp, show (0 - ((1 : Nat) : Int)) = -1 by omega, show BitVec.ofInt 64 (-1) = BitVec.allOnes 64 by decide, BitVec.xor_allOnes, BitVec.toNat_not, BitVec.ofInt_natCast, BitVec.toNat_ofNat, IntKind.wrap_i64]
    omega
  · rw [if_neg hp, show z % 2 = 0 by omega, show (0 - ((0 : Nat) : Int)) = 0 by omega, show BitVec.ofInt 64 0 = 0#64 by decide, BitVec.xor_zero, BitVec.ofInt_natCast, BitVec.toNat_ofNat, w64 (by omega) (by omega)]
    omega

theorem back_ok {z : Nat} {h : Hp} {Q : Int → Hp → Prop} (hz : z < 18446744073709551616) (hq : Q (zagV z) h) : callP Try.prog 124 [Value.int .u64 (z : Int)] (cI .i64) h Q := by
  refine c124 ?_
  unfold F124
  refine ⟨by decide, ?_⟩
  rw [back_eq hz]; exact hq
theorem zag_ok {z : Nat} {h : Hp} {Q : Int → Hp → Prop} (hz : z < 18446744073709551616) (hq : Q (zagV z) h) : callP Try.prog 125 [Value.int .u64 (z : Int)] (cI .i64) h Q := by
  refine c125 ?_
  unfold F125
  have e1 : quoI .u64 (z : Int) 2 = ((z / 2 : Nat) : Int) := by
    show IntKind.u64.wrap ((z : Int).tdiv 2) = _
    rw [Int.tdiv_eq_ediv_of_nonneg (by omega), wrap64]; omega
  rw [e1, w64 (n := ((z / 2 : Nat) : Int)) (by omega) (by omega), w64 (n := 0 - ((z / 2 : Nat) : Int)) (by omega) (by omega), w64 (by omega) (by omega)]
  refine ⟨by decide, ?_⟩
  rw [Int.tmod_eq_emod_of_nonneg (by omega)]
  unfold zagV at hq
  refine cond_i (fun e => ⟨by decide, ?_⟩) fun e => ⟨by decide, ?_⟩
  · have e : (z : Int) % 2 = 1 := by simpa using e
    rw [if_pos (by omega)] at hq
    rw [show (0 : Int) - ((z / 2 : Nat) : Int) - 1 = -((z / 2 : Nat) : Int) - 1 by omega]; exact hq
  · have e : ¬ (z : Int) % 2 = 1 := by simpa using e
    rw [if_neg (by omega)] at hq; exact hq

/-- The answer on the number that bytes begin with. -/
def firstR (bs : List Int) : Int × Int × Bool :=
  match firstV bs with
  | none => (0, 0, false)
  | some (v, k) => (v, (k : Int), true)
theorem firstR_none {bs : List Int} (h : firstV bs = none) : firstR bs = (0, 0, false) := by unfold firstR; rw [h]
theorem firstR_some {bs : List Int} {v : Int} {k : Nat} (h : firstV bs = some (v, k)) : firstR bs = (v, (k : Int), true) := by unfold firstR; rw [h]

theorem firstG_bad {i z : Nat} {c : Int} {l : List Int} (h1 : c < 128) (h2 : (c = 0 ∧ 0 < i) ∨ (i = 9 ∧ 1 < c)) : firstG i z (c :: l) = none := by
  unfold firstG
  split
  · rfl
  · have e1 : ¬ (128 : Int) ≤ c := by omega
    simp only [if_neg e1]
theorem firstG_end {i z : Nat} {c : Int} {l : List Int} (h0 : i ≤ 9) (h1 : c < 128) (h2 : ¬ ((c = 0 ∧ 0 < i) ∨ (i = 9 ∧ 1 < c))) : firstG i z (c :: l) = some (z + c.toNat * 128 ^ i, i + 1) := by
  unfold firstG
  rw [if_neg (by omega), if_neg (by omega), if_neg h2]
theorem firstG_more {i z : Nat} {c : Int} {l : List Int} (h0 : i ≤ 9) (h1 : 128 ≤ c) : firstG i z (c :: l) = firstG (i + 1) (z + (c.toNat % 128) * 128 ^ i) l := by
  conv => lhs; unfold firstG
  rw [if_neg (by omega), if_pos h1]
theorem firstG_ten (z : Nat) (l : List Int) : firstG 10 z l = none := by
  cases l with
  | nil => rfl
  | cons c l => unfold firstG; rw [if_pos (by omega)]
theorem firstV_of {bs : List Int} {i z : Nat} (h : firstG 0 0 bs = firstG i z (bs.drop i)) {o : Option (Nat × Nat)} (ho : firstG i z (bs.drop i) = o) : firstV bs = o.map fun x => (zagV x.1, x.2) := by
  unfold firstV; rw [h, ho]
theorem z_lt {i z d : Nat} (hi : i ≤ 8) (hz : z < 128 ^ i) (hd : d < 128) : z + d * 128 ^ i < 128 ^ (i + 1) ∧ d * 128 ^ i < 18446744073709551616 := by
  have hp : (128 : Nat) ^ (i + 1) = 128 * 128 ^ i := by rw [Nat.pow_succ, Nat.mul_comm]
  rw [hp]
  rcases pow128 i (by omega) with e | e | e | e | e | e | e | e | e | ⟨e9, e⟩
  all_goals (simp only [e] at hz ⊢; omega)
theorem z_end {i z d : Nat} (hi : i ≤ 9) (hz : z < 128 ^ i) (hd : d < 128) (h9 : i = 9 → d ≤ 1) : d * 128 ^ i < 18446744073709551616 ∧ z + d * 128 ^ i < 18446744073709551616 := by
  rcases pow128 i hi with e | e | e | e | e | e | e | e | e | ⟨e9, e⟩
  all_goals (first | (simp only [e] at hz ⊢; have := h9 e9; omega) | (simp only [e] at hz ⊢; omega))

theorem first_ok {p0 : Sl} {g h : Hp} {bs : List Int} (hg : g.sub h) (r : Row (cI .u8) g p0 bs) (hb : Bytes bs) (hcap : bs.length ≤ p0.cap) (hl : bs.length ≤ 1000000) {Q : Int × Int × Bool → Hp → Prop} (hq : Q (firstR bs) h) :
    callP Try.prog 68 [Value.slice p0.a p0.len p0.cap] (tupC [cI .i64, cI .i64, cB]) h Q := by
  refine c68 ?_
  unfold F68
  have hlen := r.1
  obtain ⟨m, hm⟩ : ∃ m : Nat, m = min bs.length 10 := ⟨_, rfl⟩
  have hmin : minI (p0.len : Int) 10 = (m : Int) := by
    unfold minI; rw [hlen, hm]; split <;> omega
  rw [hmin]
  refine ⟨by omega, by omega, ?_⟩
  rw [show ((m : Int).toNat) = m by omega]
  have r1 := r.cut (k := 0) (m := m) (cap' := 0) (by omega) (by omega) hcap rfl (z := 1) rfl
  refine loop_i (fun z h' => ∃ i zn : Nat, z.2 = i ∧ i ≤ m ∧ h' = h ∧ firstG 0 0 bs = firstG i zn (bs.drop i) ∧ (i ≤ 9 → z.1 = zn ∧ zn < 128 ^ i)) (fun z => m - z.2.toNat) ⟨0, 0, rfl, Nat.zero_le _, rfl, rfl, fun _ => ⟨rfl, by decide⟩⟩ ?_
  rintro J ⟨x, z⟩ h' again ⟨i, zn, hz, hle, rfl, hf, hx⟩
  dsimp only at hz hx
  subst hz
  refine cond_d (fun hlt => ?_) fun hge => ?_
  · have hltn : i < m := by dsimp only at hlt; omega
    clear hlt
    have hlt := hltn
    obtain ⟨rfl, hzn⟩ := hx (by omega)
    have hil : i < bs.length := by omega
    have hi : bs[i]? = some bs[i] := List.getElem?_eq_getElem hil
    have hi1 : ((bs.drop 0).take (m - 0))[i]? = some bs[i] := by
      rw [List.drop_zero, Nat.sub_zero, List.getElem?_take_of_lt hlt]; exact hi
    have hdrop : bs.drop i = bs[i] :: bs.drop (i + 1) := List.drop_eq_getElem_cons hil
    have hc := hb _ (List.mem_of_getElem? hi)
    refine idx_row r1 (Int.natCast_nonneg i) (by simp; omega) fun a ha => load_row r1 hg rfl ha (i := i) hi1 (by simp) ?_
    generalize bs[i] = c at hi hi1 hdrop hc
    have e7 : IntKind.i64.wrap (7 * (i : Int)) = ((7 * i : Nat) : Int) := by rw [w64 (by omega) (by omega)]; omega
    dsimp only
    rw [e7, tmod128 hc]
    refine ⟨by decide, by omega, ?_⟩
    refine cond_d (fun hc1 => ?_) fun hc1 => ?_
    · have hstep := firstG_more (z := zn) (l := bs.drop (i + 1)) (show i ≤ 9 by omega) hc1
      refine again _ _ ⟨i + 1, zn + (c.toNat % 128) * 128 ^ i, w64n (by omega), by omega, rfl, by rw [hf, hdrop, hstep], fun h9 => ?_⟩ (by dsimp only; rw [w64n (by omega)]; omega)
      obtain ⟨z1, z2⟩ := z_lt (i := i) (d := c.toNat % 128) (by omega) hzn (by omega)
      dsimp only
      exact ⟨shl_or (by omega) hzn z2, z1⟩
    · have hc2 : c < 128 := by omega
      have hmod : c.toNat % 128 = c.toNat := by omega
      rw [hmod]
      refine join_i (fun t h2 => h2 = h' ∧ t = decide ((c = 0 ∧ 0 < i) ∨ (i = 9 ∧ 1 < c))) ?_ fun J2 hJ2 => ?_
      · rintro t h2 ⟨rfl, rfl⟩
        refine cond_d (fun hbad => ?_) fun hbad => ?_
        · have hv : firstV bs = none := firstV_of (o := none) hf (by rw [hdrop]; exact firstG_bad hc2 hbad)
          rw [firstR_none hv] at hq; exact hq
        · have hv : firstV bs = some (zagV (zn + c.toNat * 128 ^ i), i + 1) := firstV_of (o := some (zn + c.toNat * 128 ^ i, i + 1)) hf (by rw [hdrop]; exact firstG_end (by omega) hc2 hbad)
          rw [firstR_some hv] at hq
          obtain ⟨z1, z2⟩ := z_end (i := i) (z := zn) (d := c.toNat) (by omega) hzn (by omega) (fun h9 => by omega)
          rw [shl_or (by omega) hzn z1]
          refine back_ok z2 ?_
          rw [w64n (by omega)]; exact hq
      · have hd : ∀ t : Bool, (t = true ↔ ((c = 0 ∧ 0 < i) ∨ (i = 9 ∧ 1 < c))) → t = decide ((c = 0 ∧ 0 < i) ∨ (i = 9 ∧ 1 < c)) := by
          intro t ht
          rw [Bool.eq_iff_iff, ht, decide_eq_true_iff]
        refine cond_i (fun e0 => ?_) fun e0 => ?_
        · have e0 : c = 0 := by simpa using e0
          refine cond_d (fun e1 => hJ2 _ _ ⟨rfl, hd _ (by simp; omega)⟩) fun e1 => ?_
          refine cond_i (fun e2 => hJ2 _ _ ⟨rfl, hd _ ?_⟩) fun e2 => hJ2 _ _ ⟨rfl, hd _ ?_⟩
          · simp only [beq_iff_eq] at e2; simp; omega
          · simp only [beq_eq_false_iff_ne] at e2; simp; omega
        · have e0 : c ≠ 0 := by simpa using e0
          refine cond_i (fun e2 => hJ2 _ _ ⟨rfl, hd _ ?_⟩) fun e2 => hJ2 _ _ ⟨rfl, hd _ ?_⟩
          · simp only [beq_iff_eq] at e2; simp; omega
          · simp only [beq_eq_false_iff_ne] at e2; simp; omega
  · have him : i = m := by dsimp only at hge; omega
    have hnone : firstG i zn (bs.drop i) = none := by
      by_cases h10 : i = 10
      · rw [h10]; exact firstG_ten _ _
      · rw [List.drop_eq_nil_of_le (by omega)]; rfl
    have hv : firstV bs = none := firstV_of (o := none) hf hnone
    rw [firstR_none hv] at hq; exact hq

/-! ### texts -/
theorem push_toList (s : ByteArray) (b : UInt8) : (s.push b).data.toList = s.data.toList ++ [b] := by simp [ByteArray.push]
theorem mkStr_data : ∀ (xs : List Int) (s : ByteArray), (xs.foldl (fun s n => s.push (UInt8.ofNat n.toNat)) s).data.toList = s.data.toList ++ xs.map fun n => UInt8.ofNat n.toNat
  | [], s => by simp
  | x :: xs, s => by rw [List.foldl_cons, mkStr_data xs, push_toList]; simp
theorem mkStr_list (xs : List Int) : (mkStr xs).data.toList = xs.map fun n => UInt8.ofNat n.toNat := by
  unfold mkStr; rw [mkStr_data]; rfl
theorem u8_inj {x y : Int} (hx : 0 ≤ x ∧ x < 256) (hy : 0 ≤ y ∧ y < 256) (h : UInt8.ofNat x.toNat = UInt8.ofNat y.toNat) : x = y := by
  have := congrArg UInt8.toNat h
  simp only [UInt8.toNat_ofNat'] at this
  omega
theorem map_inj : ∀ {xs ys : List Int}, Bytes xs → Bytes ys → (xs.map fun n => UInt8.ofNat n.toNat) = (ys.map fun n => UInt8.ofNat n.toNat) → xs = ys
  | [], [], _, _, _ => rfl
  | [], _ :: _, _, _, h => by cases h
  | _ :: _, [], _, _, h => by cases h
  | x :: xs, y :: ys, hx, hy, h => by
    simp only [List.map_cons, List.cons.injEq] at h
    rw [u8_inj (hx x (by simp)) (hy y (by simp)) h.1, map_inj (fun b hb => hx b (by simp [hb])) (fun b hb => hy b (by simp [hb])) h.2]
/-- Texts of bytes are the same just where the bytes are. -/
theorem strEq_mk {xs ys : List Int} (hx : Bytes xs) (hy : Bytes ys) : strEq (mkStr xs) (mkStr ys) = decide (xs = ys) := by
  rw [Bool.eq_iff_iff, decide_eq_true_iff]
  constructor
  · intro h
    have h : (mkStr xs).toList = (mkStr ys).toList := by simpa [strEq] using h
    rw [ByteArray.toList_eq, ByteArray.toList_eq, mkStr_list, mkStr_list] at h
    exact map_inj hx hy h
  · rintro rfl; exact strEq_self _

theorem rfirst_ok {p0 : Sl} {g h : Hp} {l : List Hp} {bs : List Int} (o : On h l) (hg : g ∈ l) (r : Row (cI .u8) g p0 bs) (hb : Bytes bs) (hcap : bs.length ≤ p0.cap) (hl : bs.length ≤ 1000000) {Q : Int × Int × Bool → Hp → Prop} (hq : ∀ h', On h' l → Q (firstR bs) h') :
    callP Try.prog 69 [Value.slice p0.a p0.len p0.cap] (tupC [cI .i64, cI .i64, cB]) h Q := by
  refine c69 ?_
  unfold F69
  have hlen := r.1
  refine loop_i (fun z h' => ∃ i zn : Nat, z.2 = i ∧ i ≤ bs.length ∧ i ≤ 10 ∧ h' = h ∧ firstG 0 0 bs = firstG i zn (bs.drop i) ∧ (i ≤ 9 → z.1 = zn ∧ zn < 128 ^ i)) (fun z => 10 - z.2.toNat) ⟨0, 0, rfl, Nat.zero_le _, Nat.zero_le _, rfl, rfl, fun _ => ⟨rfl, by decide⟩⟩ ?_
  rintro J ⟨x, z⟩ h' again ⟨i, zn, hz, hle, h10, rfl, hf, hx⟩
  dsimp only at hz hx
  subst hz
  refine join_i (fun t h2 => h2 = h' ∧ t = decide (i < bs.length ∧ i < 10)) ?_ fun J2 hJ2 => ?_
  · rintro t h2 ⟨rfl, rfl⟩
    refine cond_d (fun ⟨hil, hi10⟩ => ?_) fun hge => ?_
    · obtain ⟨rfl, hzn⟩ := hx (by omega)
      have hi : bs[i]? = some bs[i] := List.getElem?_eq_getElem hil
      have hdrop : bs.drop i = bs[i] :: bs.drop (i + 1) := List.drop_eq_getElem_cons hil
      have hc := hb _ (List.mem_of_getElem? hi)
      refine idx_row r (Int.natCast_nonneg i) (by dsimp only; omega) fun a ha => load_row r (o.mem hg) rfl ha (i := i) hi (by simp) ?_
      have e7 : IntKind.u64.wrap (IntKind.i64.wrap (7 * (i : Int))) = ((7 * i : Nat) : Int) := by rw [w64 (by omega) (by omega), wrap64]; omega
      dsimp only
      refine ⟨by decide, by rw [e7]; omega, ?_⟩
      refine idx_row r (Int.natCast_nonneg i) (by omega) fun a ha => load_row r (o.mem hg) rfl ha (i := i) hi (by simp) ?_
      generalize bs[i] = c at hi hdrop hc
      rw [e7, tmod128 hc]
      refine cond_d (fun hc1 => ?_) fun hc1 => ?_
      · have hmod : c.toNat % 128 = c.toNat := by omega
        rw [hmod]
        have hrange := or_range (zn : Int) (shlI .u64 ((c.toNat : Nat) : Int) ((7 * i : Nat) : Int))
        obtain ⟨y, hy⟩ : ∃ y : Nat, orI .u64 (zn : Int) (shlI .u64 ((c.toNat : Nat) : Int) ((7 * i : Nat) : Int)) = (y : Int) := ⟨(orI .u64 (zn : Int) (shlI .u64 ((c.toNat : Nat) : Int) ((7 * i : Nat) : Int))).toNat, by omega⟩
        rw [hy] at hrange ⊢
        have hy' : y < 18446744073709551616 := by omega
        refine zag_ok hy' ?_
        rw [w64n (by omega)]
        refine ⟨by omega, by omega, ?_⟩
        rw [show (((i + 1 : Nat) : Int)).toNat = i + 1 by omega]
        have r1 := r.cut (k := 0) (m := i + 1) (cap' := 0) (by omega) (by omega) hcap rfl (z := 1) rfl
        rw [List.drop_zero, Nat.sub_zero] at r1
        refine str_row r1 (o.mem hg) ?_
        refine one_ok3 o (zag_I64 hy') fun s d h3 o3 w3 => ?_
        refine ⟨⟨str_row r1 (o3.mem (by simp [hg])) rfl, trivial⟩, ?_⟩
        refine str_row w3.row (o3.get (i := 0) rfl) ?_
        rw [strEq_mk (xs := one3 (zagV y)) (fun b hb' => grp_byte _ b hb') (hb.take _)]
        by_cases hbad : (c = 0 ∧ 0 < i) ∨ (i = 9 ∧ 1 < c)
        · have hv : firstV bs = none := firstV_of (o := none) hf (by rw [hdrop]; exact firstG_bad hc1 hbad)
          have hne : one3 (zagV y) ≠ bs.take (i + 1) := by
            intro he
            have := firstV_one (zag_I64 hy') (bs.drop (i + 1))
            rw [he, List.take_append_drop, hv] at this
            cases this
          refine cond_t (by rw [decide_eq_false hne]; rfl) ?_
          have := hq _ o3.tail
          rw [firstR_none hv] at this; exact this
        · have hv : firstV bs = some (zagV (zn + c.toNat * 128 ^ i), i + 1) := firstV_of (o := some (zn + c.toNat * 128 ^ i, i + 1)) hf (by rw [hdrop]; exact firstG_end (by omega) hc1 hbad)
          obtain ⟨z1, z2⟩ := z_end (i := i) (z := zn) (d := c.toNat) (by omega) hzn (by omega) (fun h9 => by omega)
          rw [shl_or (by omega) hzn z1] at hy
          have hyy : y = zn + c.toNat * 128 ^ i := by omega
          subst hyy
          obtain ⟨_, b2, _⟩ := firstV_inv hb hv
          refine cond_f (by rw [decide_eq_true b2.symm]; rfl) ?_
          have := hq _ o3.tail
          rw [firstR_some hv] at this; exact this
      · have hstep := firstG_more (z := zn) (l := bs.drop (i + 1)) (show i ≤ 9 by omega) (show 128 ≤ c by omega)
        refine again _ _ ⟨i + 1, zn + (c.toNat % 128) * 128 ^ i, w64n (by omega), by omega, by omega, rfl, by rw [hf, hdrop, hstep], fun h9 => ?_⟩ (by dsimp only; rw [w64n (by omega)]; omega)
        obtain ⟨z1, z2⟩ := z_lt (i := i) (d := c.toNat % 128) (by omega) hzn (by omega)
        dsimp only
        exact ⟨shl_or (by omega) hzn z2, z1⟩
    · have hnone : firstG i zn (bs.drop i) = none := by
        by_cases h10' : i = 10
        · rw [h10']; exact firstG_ten _ _
        · rw [List.drop_eq_nil_of_le (by omega)]; rfl
      have hv : firstV bs = none := firstV_of (o := none) hf hnone
      have := hq _ o
      rw [firstR_none hv] at this; exact this
  · refine cond_d (fun hlt => ?_) fun hge => ?_
    · dsimp only at hlt
      refine hJ2 _ _ ⟨rfl, ?_⟩
      rw [Bool.eq_iff_iff]; simp; omega
    · dsimp only at hge
      refine hJ2 _ _ ⟨rfl, ?_⟩
      rw [decide_eq_false (by omega)]
end Go.Proofs.Ytmkgcdgpokidjaa
