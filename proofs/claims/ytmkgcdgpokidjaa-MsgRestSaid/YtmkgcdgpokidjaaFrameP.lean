/- Chapter 6: frames. -/
import Derived.Test.YtmkgcdgpokidjaaPackH
set_option linter.unusedVariables false
namespace Go.Proofs.Ytmkgcdgpokidjaa
open Go.Eng

def sumV (bs : List Int) : Int := bs.foldl nextV 0
def fourV (n : Int) : List Int := [n / 16777216 % 256, n / 65536 % 256, n / 256 % 256, n % 256]
def bodyV (body : List Int) : List Int := 197 :: (body.length : Int) :: body
/-- A body's frame. -/
def frameV (body : List Int) : List Int := bodyV body ++ fourV (sumV (bodyV body))
theorem fourV_len (n : Int) : (fourV n).length = 4 := rfl
theorem frameV_len (body : List Int) : (frameV body).length = body.length + 6 := by simp [frameV, bodyV, fourV_len]
theorem fourV_byte (n : Int) : Bytes (fourV n) := by
  intro b hb
  simp only [fourV, List.mem_cons, List.not_mem_nil, or_false] at hb
  rcases hb with rfl | rfl | rfl | rfl <;> omega
theorem fourV_inj {n m : Int} (hn : 0 ≤ n ∧ n < 4294967296) (hm : 0 ≤ m ∧ m < 4294967296) (h : fourV n = fourV m) : n = m := by
  simp only [fourV, List.cons.injEq, and_true] at h
  omega
theorem bodyV_byte {body : List Int} (hb : Bytes body) (hl : body.length ≤ 80) : Bytes (bodyV body) := by
  intro b hm
  simp only [bodyV, List.mem_cons] at hm
  rcases hm with rfl | rfl | hm
  · omega
  · omega
  · exact hb b hm
theorem frameV_byte {body : List Int} (hb : Bytes body) (hl : body.length ≤ 80) : Bytes (frameV body) := by
  intro b hm
  rcases List.mem_append.1 hm with hm | hm
  · exact bodyV_byte hb hl b hm
  · exact fourV_byte _ b hm
theorem sumV_range {bs : List Int} (hb : Bytes bs) : 0 ≤ sumV bs ∧ sumV bs < 4294967296 := by
  obtain ⟨h1, h2, hi, h3, h4, h5⟩ := low_fold bs 0 0 low_zero hb
  unfold sumV
  omega

/-- The body of the frame that bytes begin with, and how many it has. -/
def frameH (x y : Int) (l : List Int) : Option (List Int × Nat) :=
  if x = 197 ∧ y ≤ 80 ∧ y.toNat + 4 ≤ l.length ∧ (l.drop y.toNat).take 4 = fourV (sumV (197 :: y :: l.take y.toNat)) then some (l.take y.toNat, y.toNat + 6) else none
def frameG : List Int → Option (List Int × Nat)
  | x :: y :: l => frameH x y l
  | _ => none
theorem frameG_inv {bs body : List Int} {k : Nat} (hb : Bytes bs) (h : frameG bs = some (body, k)) : body.length ≤ 80 ∧ k = body.length + 6 ∧ bs.take k = frameV body ∧ k ≤ bs.length := by
  match bs, h with
  | x :: y :: l, h0 =>
    have h1 : frameH x y l = some (body, k) := h0
    clear h0
    by_cases hc : x = 197 ∧ y ≤ 80 ∧ y.toNat + 4 ≤ l.length ∧ (l.drop y.toNat).take 4 = fourV (sumV (197 :: y :: l.take y.toNat))
    · rw [frameH, if_pos hc] at h1
      obtain ⟨rfl, h80, hlen, hsum⟩ := hc
      cases h1
      have hy := hb y (by simp)
      have hl : (l.take y.toNat).length = y.toNat := by rw [List.length_take]; omega
      refine ⟨by omega, by omega, ?_, by simp; omega⟩
      unfold frameV bodyV
      rw [hl, show ((y.toNat : Nat) : Int) = y by omega, ← hsum]
      show (197 :: y :: l).take (y.toNat + 4 + 1 + 1) = _
      rw [List.take_succ_cons, List.take_succ_cons, List.take_add, List.cons_append, List.cons_append]
    · rw [frameH, if_neg hc] at h1
      cases h1
theorem frameG_put {body : List Int} (hl : body.length ≤ 80) (rest : List Int) : frameG (frameV body ++ rest) = some (body, body.length + 6) := by
  show frameH 197 (body.length : Int) ((body ++ fourV (sumV (bodyV body))) ++ rest) = _
  unfold frameH
  have e1 : (body ++ fourV (sumV (bodyV body)) ++ rest).take body.length = body := by rw [List.append_assoc, List.take_append_of_le_length (Nat.le_refl _), List.take_length]
  rw [if_pos]
  · simp only [Int.toNat_natCast]; rw [e1]
  · simp only [Int.toNat_natCast]
    refine ⟨trivial, by omega, by simp [fourV_len], ?_⟩
    rw [e1, List.append_assoc, List.drop_append_of_le_length (Nat.le_refl _), List.drop_length, List.nil_append]
    exact List.take_append_of_le_length (by simp [fourV_len])
theorem frameG_self {body : List Int} (hl : body.length ≤ 80) : frameG (frameV body) = some (body, body.length + 6) := by
  have := frameG_put hl []
  rwa [List.append_nil] at this

theorem shr_four {n : Int} (k : Nat) : IntKind.u8.wrap (shrI .u32 n (k : Int)) = n.fdiv (2 ^ (min k 32)) % 256 := by
  rw [wrap8]; rfl
theorem four_ok {n : Int} {h : Hp} {l : List Hp} (o : On h l) (hn : 0 ≤ n ∧ n < 4294967296) {Q : Sl → Hp → Prop} (hq : ∀ s d h', On h' (d :: l) → Own (cI .u8) d s (fourV n) → Q s h') : callP Try.prog 127 [Value.int .u32 n] cSl h Q := by
  refine c127 ?_
  unfold F127
  refine ⟨by decide, by decide, by decide, by decide, ?_⟩
  refine alloc_ob o fun k1 h1 o1 => ?_
  have w1 : Own (cI .u8) (ob k1 [Value.int .u8 0, Value.int .u8 0, Value.int .u8 0, Value.int .u8 0] 5) ⟨some ⟨k1, 0, none⟩, 4, 4⟩ [0, 0, 0, 0] := own_ob (rest := []) rfl rfl rfl
  refine loop_i (fun z h' => ∃ (i : Nat) (d : Hp) (xs : List Int), z = i ∧ i ≤ 4 ∧ xs.length = 4 ∧ xs.take i = (fourV n).take i ∧ On h' (d :: l) ∧ Own (cI .u8) d ⟨some ⟨k1, 0, none⟩, 4, 4⟩ xs) (fun z => 4 - z.toNat) ⟨0, _, [0, 0, 0, 0], rfl, Nat.zero_le _, rfl, rfl, o1, w1⟩ ?_
  rintro J z h2 again ⟨i, d, xs, rfl, hle, hxl, hx, o2, w2⟩
  refine cond_d (fun hlt => ?_) fun hge => ?_
  · have hlt : i < 4 := by omega
    have e1 : IntKind.i64.wrap (8 * IntKind.i64.wrap (3 - (i : Int))) = ((8 * (3 - i) : Nat) : Int) := by rw [w64 (n := 3 - (i : Int)) (by omega) (by omega), w64 (by omega) (by omega)]; omega
    rw [e1]
    refine ⟨by omega, ?_⟩
    refine idx_row (s := ⟨some ⟨k1, 0, none⟩, 4, 4⟩) w2.row (by omega) (by omega) fun a ha => ?_
    refine store_own (s := ⟨some ⟨k1, 0, none⟩, 4, 4⟩) o2 rfl w2 ha (i := i) (by omega) (by simp) fun d3 h3 o3 w3 => ?_
    refine again _ _ ⟨i + 1, d3, _, w64n (by omega), by omega, by rw [List.length_set]; exact hxl, ?_, o3, w3⟩ (by rw [w64n (by omega)]; omega)
    have hv : (fourV n)[i]? = some (IntKind.u8.wrap (shrI .u32 n ((8 * (3 - i) : Nat) : Int))) := by
      rw [shr_four, Int.fdiv_eq_ediv_of_nonneg _ (Int.le_of_lt (Int.pow_pos (by decide)))]
      have : i = 0 ∨ i = 1 ∨ i = 2 ∨ i = 3 := by omega
      rcases this with rfl | rfl | rfl | rfl
      · rfl
      · rfl
      · rfl
      · simp [fourV]
    rw [List.take_add_one, List.take_add_one, hv, List.getElem?_set_self (by omega)]
    rw [List.take_set_of_le (Nat.le_refl _), hx]
  · have hi4 : i = 4 := by omega
    subst hi4
    rw [List.take_of_length_le (by omega), List.take_of_length_le (by rw [fourV_len]; omega)] at hx
    subst hx
    exact hq _ d h2 o2 w2

theorem grow_ok {n : Int} {h : Hp} {l : List Hp} (o : On h l) (h0 : 0 ≤ n) (hn : n ≤ 1000000) {Q : Sl → Hp → Prop} (hq : ∀ s d h', On h' (d :: l) → Own (cI .u8) d s [] → Q s h') : callP Try.prog 143 [Value.slice none 0 0, Value.int .i64 n] cSl h Q := by
  refine c143 (p0 := ⟨none, 0, 0⟩) ?_
  unfold F143
  have e : IntKind.i64.wrap (n - IntKind.i64.wrap (((0 : Nat) : Int) - ((0 : Nat) : Int))) = n := by
    rw [show IntKind.i64.wrap (((0 : Nat) : Int) - ((0 : Nat) : Int)) = 0 by decide, w64 (by omega) (by omega)]; omega
  refine join_i (fun _ h' => h' = h) ?_ fun J hJ => cond_d (fun hneg => by omega) fun _ => hJ _ _ rfl
  rintro _ h1 rfl
  dsimp only
  rw [e]
  refine cond_d (fun hpos => ?_) fun _ => hq _ Hp.emp h1 o.emp (Own.nil _)
  refine ⟨by decide, by decide, ?_⟩
  refine ⟨h0, by unfold roomP; omega, fun hc => ?_, fun hc => ⟨by unfold roomP; simp; omega, rfl, ?_⟩⟩
  · exfalso; simp at hc; omega
  · intro nc pad hnc hpad b hb
    have o1 := o.new hb (.cells (cellsL (cI .u8) [] ++ pad).toArray 5 (0, 0))
    refine ⟨by decide, by simp, ?_⟩
    have ec : cutA (some (⟨b, 0, none⟩ : Addr)) 0 nc 1 = some ⟨b, 0, none⟩ := by unfold cutA; split <;> rfl
    have hz : (((0 : Nat) : Int)).toNat = 0 := rfl
    simp only [hz]
    rw [ec]
    refine hq _ _ _ o1 ?_
    refine own_ob (cd := cI .u8) (xs := []) (rest := pad) rfl rfl ?_
    rw [hpad]; simp

/-- Rows, one behind the other. -/
theorem concat_ok {p0 : Sl} {g h : Hp} {l : List Hp} {ss : List Sl} {bss : List (List Int)} (o : On h l) (hg : g ∈ l) (r : Row cSl g p0 ss) (rr : ∀ (i : Nat) (s : Sl) (bs : List Int), ss[i]? = some s → bss[i]? = some bs → ∃ c ∈ l, Row (cI .u8) c s bs) (hlen : ss.length = bss.length) (hl : bss.flatten.length ≤ 1000000) (hs : ss.length ≤ 1000000) {Q : Sl → Hp → Prop}
    (hq : ∀ s d h', On h' (d :: l) → Own (cI .u8) d s bss.flatten → Q s h') : callP Try.prog 126 [Value.slice p0.a p0.len p0.cap] cSl h Q := by
  refine c126 ?_
  unfold F126
  have hpl := r.1
  have part : ∀ i, i ≤ bss.length → (bss.take i).flatten.length ≤ 1000000 := by
    intro i hi
    have := congrArg List.length (congrArg List.flatten (List.take_append_drop i bss))
    rw [List.flatten_append, List.length_append] at this
    omega
  have step : ∀ i bs, bss[i]? = some bs → (bss.take (i + 1)).flatten = (bss.take i).flatten ++ bs := by
    intro i bs hi
    rw [List.take_add_one, hi]
    simp
  refine loop_i (fun z h' => ∃ i : Nat, z.2 = i ∧ i ≤ ss.length ∧ z.1 = ((bss.take i).flatten.length : Nat) ∧ h' = h) (fun z => ss.length - z.2.toNat) ⟨0, rfl, Nat.zero_le _, rfl, rfl⟩ ?_
  rintro J ⟨x, z⟩ h' again ⟨i, hz, hle, hx, rfl⟩
  dsimp only at hz hx
  subst hz hx
  refine cond_d (fun hlt => ?_) fun hge => ?_
  · dsimp only at hlt
    have hlt : i < ss.length := by omega
    have hi : ss[i]? = some ss[i] := List.getElem?_eq_getElem hlt
    have hib : bss[i]? = some (bss[i]'(by omega)) := List.getElem?_eq_getElem (by omega)
    obtain ⟨c, hc, rc⟩ := rr i _ _ hi hib
    have hp := part (i + 1) (by omega)
    have hs' := step i _ hib
    rw [hs', List.length_append] at hp
    have e : IntKind.i64.wrap ((((bss.take i).flatten.length : Nat) : Int) + ((ss[i]).len : Int)) = (((bss.take (i + 1)).flatten.length : Nat) : Int) := by
      rw [rc.1, w64 (by omega) (by omega), hs', List.length_append]; omega
    refine join_i (fun y h2 => h2 = h' ∧ y = (((bss.take (i + 1)).flatten.length : Nat) : Int)) ?_ fun J2 hJ2 => ?_
    · rintro y h2 ⟨rfl, rfl⟩
      exact again _ _ ⟨i + 1, w64n (by omega), by omega, rfl, rfl⟩ (by dsimp only; rw [w64n (by omega)]; omega)
    · refine idx_row r (Int.natCast_nonneg i) (by dsimp only; omega) fun a ha => load_row r (o.mem hg) rfl ha (i := i) hi (by simp) ?_
      dsimp only
      rw [e]
      exact cond_d (fun hneg => by omega) fun _ => hJ2 _ _ ⟨rfl, rfl⟩
  · dsimp only at hge
    have hil : i = ss.length := by omega
    subst hil
    refine grow_ok o (by dsimp only; omega) (by dsimp only; have := part ss.length (by omega); omega) fun s1 d1 h1 o1 w1 => ?_
    refine loop_i (fun z h' => ∃ (i : Nat) (d : Hp), z.2 = i ∧ i ≤ ss.length ∧ On h' (d :: l) ∧ Own (cI .u8) d z.1 (bss.take i).flatten) (fun z => ss.length - z.2.toNat) ⟨0, d1, rfl, Nat.zero_le _, o1, w1⟩ ?_
    rintro J3 ⟨s, z⟩ h2 again2 ⟨j, d, hz, hle2, o2, w2⟩
    dsimp only at hz w2
    subst hz
    refine cond_d (fun hlt => ?_) fun hge2 => ?_
    · dsimp only at hlt
      have hlt : j < ss.length := by omega
      have hi : ss[j]? = some ss[j] := List.getElem?_eq_getElem hlt
      have hib : bss[j]? = some (bss[j]'(by omega)) := List.getElem?_eq_getElem (by omega)
      obtain ⟨c, hc, rc⟩ := rr j _ _ hi hib
      have hp := part (j + 1) (by omega)
      have hs' := step j _ hib
      rw [hs', List.length_append] at hp
      refine idx_row r (Int.natCast_nonneg j) (by dsimp only; omega) fun a ha => load_row r (o2.mem (by simp [hg])) rfl ha (i := j) hi (by simp) ?_
      refine append_own (g := c) (s := s) (t := ss[j]) o2 rfl w2 (by decide) rc (o2.mem (by simp [hc])) (by unfold roomP; omega) fun d3 p3 n3 m3 h3 o3 w3 => ?_
      refine again2 _ _ ⟨j + 1, d3, w64n (by omega), by omega, o3, ?_⟩ (by dsimp only; rw [w64n (by omega)]; omega)
      rw [hs']; exact w3
    · dsimp only at hge2
      have hjl : j = bss.length := by omega
      subst hjl
      rw [List.take_length] at w2
      exact hq _ d h2 o2 w2
end Go.Proofs.Ytmkgcdgpokidjaa
