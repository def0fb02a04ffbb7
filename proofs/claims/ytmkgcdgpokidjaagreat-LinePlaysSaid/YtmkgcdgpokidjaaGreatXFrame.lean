import Derived.Test.YtmkgcdgpokidjaaGreatXPack
set_option linter.unusedVariables false
/- Chapter 6: frames. -/
namespace Go.Proofs.YtmkgcdgpokidjaaGreat
open Go.Eng

def sumV (bs : List Int) : Int := bs.foldl nextV 0
def fourV (n : Int) : List Int := [n / 16777216 % 256, n / 65536 % 256, n / 256 % 256, n % 256]
def bodyV (body : List Int) : List Int := 197 :: (body.length : Int) :: body
/-- A body's frame. -/
def frameV (body : List Int) : List Int := bodyV body ++ fourV (sumV (bodyV body))
theorem fourV_len (n : Int) : (fourV n).length = 4 := rfl
theorem frameV_len (body : List Int) : (frameV body).length = body.length + 6 := by simp [frameV, bodyV, fourV_len]
theorem fourV_byte (n : Int) : Bytes (fourV n) := by
  intro b hb
  simp only [fourV, List.mem_cons, List.not_mem_nil, or_false] at hb
  rcases hb with rfl | rfl | rfl | rfl <;> omega
theorem fourV_inj {n m : Int} (hn : 0 ≤ n ∧ n < 4294967296) (hm : 0 ≤ m ∧ m < 4294967296) (h : fourV n = fourV m) : n = m := by
  simp only [fourV, List.cons.injEq, and_true] at h
  omega
theorem bodyV_byte {body : List Int} (hb : Bytes body) (hl : body.length ≤ 80) : Bytes (bodyV body) := by
  intro b hm
  simp only [bodyV, List.mem_cons] at hm
  rcases hm with rfl | rfl | hm
  · omega
  · omega
  · exact hb b hm
theorem frameV_byte {body : List Int} (hb : Bytes body) (hl : body.length ≤ 80) : Bytes (frameV body) := by
  intro b hm
  rcases List.mem_append.1 hm with hm | hm
  · exact bodyV_byte hb hl b hm
  · exact fourV_byte _ b hm
theorem sumV_range {bs : List Int} (hb : Bytes bs) : 0 ≤ sumV bs ∧ sumV bs < 4294967296 := by
  obtain ⟨h1, h2, hi, h3, h4, h5⟩ := low_fold bs 0 0 low_zero hb
  unfold sumV
  omega
/-- The body of the frame that bytes begin with, and how many it has. -/
def frameH (x y : Int) (l : List Int) : Option (List Int × Nat) :=
  if x = 197 ∧ y ≤ 80 ∧ y.toNat + 4 ≤ l.length ∧ (l.drop y.toNat).take 4 = fourV (sumV (197 :: y :: l.take y.toNat)) then some (l.take y.toNat, y.toNat + 6) else none
def frameG : List Int → Option (List Int × Nat)
  | x :: y :: l => frameH x y l
  | _ => none
theorem frameG_inv {bs body : List Int} {k : Nat} (hb : Bytes bs) (h : frameG bs = some (body, k)) : body.length ≤ 80 ∧ k = body.length + 6 ∧ bs.take k = frameV body ∧ k ≤ bs.length := by
  match bs, h with
  | x :: y :: l, h0 =>
    have h1 : frameH x y l = some (body, k) := h0
    clear h0
    by_cases hc : x = 197 ∧ y ≤ 80 ∧ y.toNat + 4 ≤ l.length ∧ (l.drop y.toNat).take 4 = fourV (sumV (197 :: y :: l.take y.toNat))
    · rw [frameH, if_pos hc] at h1
      obtain ⟨rfl, h80, hlen, hsum⟩ := hc
      cases h1
      have hy := hb y (by simp)
      have hl : (l.take y.toNat).length = y.toNat := by rw [List.length_take]; omega
      refine ⟨by omega, by omega, ?_, by simp; omega⟩
      unfold frameV bodyV
      rw [hl, show ((y.toNat : Nat) : Int) = y by omega, ← hsum]
      show (197 :: y :: l).take (y.toNat + 4 + 1 + 1) = _
      rw [List.take_succ_cons, List.take_succ_cons, List.take_add, List.cons_append, List.cons_append]
    · rw [frameH, if_neg hc] at h1
      cases h1
theorem frameG_put {body : List Int} (hl : body.length ≤ 80) (rest : List Int) : frameG (frameV body ++ rest) = some (body, body.length + 6) := by
  show frameH 197 (body.length : Int) ((body ++ fourV (sumV (bodyV body))) ++ rest) = _
  unfold frameH
  have e1 : (body ++ fourV (sumV (bodyV body)) ++ rest).take body.length = body := by rw [List.append_assoc, List.take_append_of_le_length (Nat.le_refl _), List.take_length]
  rw [if_pos]
  · simp only [Int.toNat_natCast]; rw [e1]
  · simp only [Int.toNat_natCast]
    refine ⟨trivial, by omega, by simp [fourV_len], ?_⟩
    rw [e1, List.append_assoc, List.drop_append_of_le_length (Nat.le_refl _), List.drop_length, List.nil_append]
    exact List.take_append_of_le_length (by simp [fourV_len])
theorem frameG_self {body : List Int} (hl : body.length ≤ 80) : frameG (frameV body) = some (body, body.length + 6) := by
  have := frameG_put hl []
  rwa [List.append_nil] at this
theorem shr_four {n : Int} (k : Nat) : IntKind.u8.wrap (shrI .u32 n (k : Int)) = n.fdiv (2 ^ (min k 32)) % 256 := by
  rw [wrap8]; rfl
theorem four_ok {n : Int} {h : Hp} {l : List Hp} (o : On h l) (hn : 0 ≤ n ∧ n < 4294967296) {Q : Sl → Hp → Prop} (hq : ∀ s d h', On h' (d :: l) → Own (cI .u8) d s (fourV n) → Q s h') : callP Tryz.prog 76 [Value.int .u32 n] cSl h Q := by
  refine c76 ?_
  unfold F76
  refine ⟨by decide, by decide, by decide, by decide, ?_⟩
  refine alloc_ob o fun k1 h1 o1 => ?_
  have w1 : Own (cI .u8) (ob k1 [Value.int .u8 0, Value.int .u8 0, Value.int .u8 0, Value.int .u8 0] 5) ⟨some ⟨k1, 0, none⟩, 4, 4⟩ [0, 0, 0, 0] := own_ob (rest := []) rfl rfl rfl
  refine loop_i (fun z h' => ∃ (i : Nat) (d : Hp) (xs : List Int), z = i ∧ i ≤ 4 ∧ xs.length = 4 ∧ xs.take i = (fourV n).take i ∧ On h' (d :: l) ∧ Own (cI .u8) d ⟨some ⟨k1, 0, none⟩, 4, 4⟩ xs) (fun z => 4 - z.toNat) ⟨0, _, [0, 0, 0, 0], rfl, Nat.zero_le _, rfl, rfl, o1, w1⟩ ?_
  rintro J z h2 again ⟨i, d, xs, rfl, hle, hxl, hx, o2, w2⟩
  refine cond_d (fun hlt => ?_) fun hge => ?_
  · have hlt : i < 4 := by omega
    have e1 : IntKind.i64.wrap (8 * IntKind.i64.wrap (3 - (i : Int))) = ((8 * (3 - i) : Nat) : Int) := by rw [w64 (n := 3 - (i : Int)) (by omega) (by omega), w64 (by omega) (by omega)]; omega
    rw [e1]
    refine ⟨by omega, ?_⟩
    refine idx_row (s := ⟨some ⟨k1, 0, none⟩, 4, 4⟩) w2.row (by omega) (by omega) fun a ha => ?_
    refine store_own (s := ⟨some ⟨k1, 0, none⟩, 4, 4⟩) o2 rfl w2 ha (i := i) (by omega) (by simp) fun d3 h3 o3 w3 => ?_
    refine again _ _ ⟨i + 1, d3, _, w64n (by omega), by omega, by rw [List.length_set]; exact hxl, ?_, o3, w3⟩ (by rw [w64n (by omega)]; omega)
    have hv : (fourV n)[i]? = some (IntKind.u8.wrap (shrI .u32 n ((8 * (3 - i) : Nat) : Int))) := by
      rw [shr_four, Int.fdiv_eq_ediv_of_nonneg _ (Int.le_of_lt (Int.pow_pos (by decide)))]
      have : i = 0 ∨ i = 1 ∨ i = 2 ∨ i = 3 := by omega
      rcases this with rfl | rfl | rfl | rfl
      · rfl
      · rfl
      · rfl
      · simp [fourV]
    rw [List.take_add_one, List.take_add_one, hv, List.getElem?_set_self (by omega)]
    rw [List.take_set_of_le (Nat.le_refl _), hx]
  · have hi4 : i = 4 := by omega
    subst hi4
    rw [List.take_of_length_le (by omega), List.take_of_length_le (by rw [fourV_len]; omega)] at hx
    subst hx
    exact hq _ d h2 o2 w2
theorem grow_ok {n : Int} {h : Hp} {l : List Hp} (o : On h l) (h0 : 0 ≤ n) (hn : n ≤ 1000000) {Q : Sl → Hp → Prop} (hq : ∀ s d h', On h' (d :: l) → Own (cI .u8) d s [] → Q s h') : callP Tryz.prog 97 [Value.slice none 0 0, Value.int .i64 n] cSl h Q := by
  refine c97 (p0 := ⟨none, 0, 0⟩) ?_
  unfold F97
  have e : IntKind.i64.wrap (n - IntKind.i64.wrap (((0 : Nat) : Int) - ((0 : Nat) : Int))) = n := by
    rw [show IntKind.i64.wrap (((0 : Nat) : Int) - ((0 : Nat) : Int)) = 0 by decide, w64 (by omega) (by omega)]; omega
  refine join_i (fun _ h' => h' = h) ?_ fun J hJ => cond_d (fun hneg => by omega) fun _ => hJ _ _ rfl
  rintro _ h1 rfl
  dsimp only
  rw [e]
  refine cond_d (fun hpos => ?_) fun _ => hq _ Hp.emp h1 o.emp (Own.nil _)
  refine ⟨by decide, by decide, ?_⟩
  refine ⟨h0, by unfold roomP; omega, fun hc => ?_, fun hc => ⟨by unfold roomP; simp; omega, rfl, ?_⟩⟩
  · exfalso; simp at hc; omega
  · intro nc pad hnc hpad b hb
    have o1 := o.new hb (.cells (cellsL (cI .u8) [] ++ pad).toArray 5 (0, 0))
    refine ⟨by decide, by simp, ?_⟩
    have ec : cutA (some (⟨b, 0, none⟩ : Addr)) 0 nc 1 = some ⟨b, 0, none⟩ := by unfold cutA; split <;> rfl
    have hz : (((0 : Nat) : Int)).toNat = 0 := rfl
    simp only [hz]
    rw [ec]
    refine hq _ _ _ o1 ?_
    refine own_ob (cd := cI .u8) (xs := []) (rest := pad) rfl rfl ?_
    rw [hpad]; simp
/-- Rows, one behind the other. -/
theorem concat_ok {p0 : Sl} {g h : Hp} {l : List Hp} {ss : List Sl} {bss : List (List Int)} (o : On h l) (hg : g ∈ l) (r : Row cSl g p0 ss) (rr : ∀ (i : Nat) (s : Sl) (bs : List Int), ss[i]? = some s → bss[i]? = some bs → ∃ c ∈ l, Row (cI .u8) c s bs) (hlen : ss.length = bss.length) (hl : bss.flatten.length ≤ 1000000) (hs : ss.length ≤ 1000000) {Q : Sl → Hp → Prop}
    (hq : ∀ s d h', On h' (d :: l) → Own (cI .u8) d s bss.flatten → Q s h') : callP Tryz.prog 85 [Value.slice p0.a p0.len p0.cap] cSl h Q := by
  refine c85 ?_
  unfold F85
  have hpl := r.1
  have part : ∀ i, i ≤ bss.length → (bss.take i).flatten.length ≤ 1000000 := by
    intro i hi
    have := congrArg List.length (congrArg List.flatten (List.take_append_drop i bss))
    rw [List.flatten_append, List.length_append] at this
    omega
  have step : ∀ i bs, bss[i]? = some bs → (bss.take (i + 1)).flatten = (bss.take i).flatten ++ bs := by
    intro i bs hi
    rw [List.take_add_one, hi]
    simp
  refine loop_i (fun z h' => ∃ i : Nat, z.2 = i ∧ i ≤ ss.length ∧ z.1 = ((bss.take i).flatten.length : Nat) ∧ h' = h) (fun z => ss.length - z.2.toNat) ⟨0, rfl, Nat.zero_le _, rfl, rfl⟩ ?_
  rintro J ⟨x, z⟩ h' again ⟨i, hz, hle, hx, rfl⟩
  dsimp only at hz hx
  subst hz hx
  refine cond_d (fun hlt => ?_) fun hge => ?_
  · dsimp only at hlt
    have hlt : i < ss.length := by omega
    have hi : ss[i]? = some ss[i] := List.getElem?_eq_getElem hlt
    have hib : bss[i]? = some (bss[i]'(by omega)) := List.getElem?_eq_getElem (by omega)
    obtain ⟨c, hc, rc⟩ := rr i _ _ hi hib
    have hp := part (i + 1) (by omega)
    have hs' := step i _ hib
    rw [hs', List.length_append] at hp
    have e : IntKind.i64.wrap ((((bss.take i).flatten.length : Nat) : Int) + ((ss[i]).len : Int)) = (((bss.take (i + 1)).flatten.length : Nat) : Int) := by
      rw [rc.1, w64 (by omega) (by omega), hs', List.length_append]; omega
    refine join_i (fun y h2 => h2 = h' ∧ y = (((bss.take (i + 1)).flatten.length : Nat) : Int)) ?_ fun J2 hJ2 => ?_
    · rintro y h2 ⟨rfl, rfl⟩
      exact again _ _ ⟨i + 1, w64n (by omega), by omega, rfl, rfl⟩ (by dsimp only; rw [w64n (by omega)]; omega)
    · refine idx_row r (Int.natCast_nonneg i) (by dsimp only; omega) fun a ha => load_row r (o.mem hg) rfl ha (i := i) hi (by simp) ?_
      dsimp only
      rw [e]
      exact cond_d (fun hneg => by omega) fun _ => hJ2 _ _ ⟨rfl, rfl⟩
  · dsimp only at hge
    have hil : i = ss.length := by omega
    subst hil
    refine grow_ok o (by dsimp only; omega) (by dsimp only; have := part ss.length (by omega); omega) fun s1 d1 h1 o1 w1 => ?_
    refine loop_i (fun z h' => ∃ (i : Nat) (d : Hp), z.2 = i ∧ i ≤ ss.length ∧ On h' (d :: l) ∧ Own (cI .u8) d z.1 (bss.take i).flatten) (fun z => ss.length - z.2.toNat) ⟨0, d1, rfl, Nat.zero_le _, o1, w1⟩ ?_
    rintro J3 ⟨s, z⟩ h2 again2 ⟨j, d, hz, hle2, o2, w2⟩
    dsimp only at hz w2
    subst hz
    refine cond_d (fun hlt => ?_) fun hge2 => ?_
    · dsimp only at hlt
      have hlt : j < ss.length := by omega
      have hi : ss[j]? = some ss[j] := List.getElem?_eq_getElem hlt
      have hib : bss[j]? = some (bss[j]'(by omega)) := List.getElem?_eq_getElem (by omega)
      obtain ⟨c, hc, rc⟩ := rr j _ _ hi hib
      have hp := part (j + 1) (by omega)
      have hs' := step j _ hib
      rw [hs', List.length_append] at hp
      refine idx_row r (Int.natCast_nonneg j) (by dsimp only; omega) fun a ha => load_row r (o2.mem (by simp [hg])) rfl ha (i := j) hi (by simp) ?_
      refine append_own (g := c) (s := s) (t := ss[j]) o2 rfl w2 (by decide) rc (o2.mem (by simp [hc])) (by unfold roomP; omega) fun d3 p3 n3 m3 h3 o3 w3 => ?_
      refine again2 _ _ ⟨j + 1, d3, w64n (by omega), by omega, o3, ?_⟩ (by dsimp only; rw [w64n (by omega)]; omega)
      rw [hs']; exact w3
    · dsimp only at hge2
      have hjl : j = bss.length := by omega
      subst hjl
      rw [List.take_length] at w2
      exact hq _ d h2 o2 w2
end Go.Proofs.YtmkgcdgpokidjaaGreat

/- Chapter 6: Put, Get, of the program and of the document. -/
namespace Go.Proofs.YtmkgcdgpokidjaaGreat
open Go.Eng

theorem byteLen {n : Nat} (h : n ≤ 80) : IntKind.u8.wrap ((n : Nat) : Int) = (n : Int) := by rw [wrap8]; omega
theorem put6_ok {p0 : Sl} {g h : Hp} {l : List Hp} {body : List Int} (o : On h l) (hg : g ∈ l) (r : Row (cI .u8) g p0 body) (hb : Bytes body) (hl : body.length ≤ 1000000) {Q : Sl × Bool → Hp → Prop}
    (h0 : 80 < body.length → Q (⟨none, 0, 0⟩, false) h) (h1 : body.length ≤ 80 → ∀ s d h', On h' (d :: l) → Own (cI .u8) d s (frameV body) → Q (s, true) h') : callP Tryz.prog 53 [Value.slice p0.a p0.len p0.cap] (tupC [cSl, cB]) h Q := by
  refine c53 ?_
  unfold F53
  have hlen := r.1
  refine cond_d (fun hgt => h0 (by omega)) fun hle => ?_
  have h80 : body.length ≤ 80 := by omega
  rw [hlen, byteLen h80]
  refine alloc_ob o fun k1 h2 o2 => ?_
  refine alloc_ob o2 fun k2 h3 o3 => ?_
  have ra : Row (cI .u8) (ob k1 [Value.int .u8 197, Value.int .u8 (body.length : Int)] 5) ⟨some ⟨k1, 0, none⟩, 2, 2⟩ [197, (body.length : Int)] := row_ob rfl rfl
  have rp : Row (cI .u8) g ⟨p0.a, body.length, p0.cap⟩ body := by rw [← hlen]; exact r
  have r2 : Row cSl (ob k2 _ 27) ⟨some ⟨k2, 0, none⟩, 2, 2⟩ [⟨some ⟨k1, 0, none⟩, 2, 2⟩, ⟨p0.a, body.length, p0.cap⟩] := row_ob (cd := cSl) (xs := [⟨some ⟨k1, 0, none⟩, 2, 2⟩, ⟨p0.a, body.length, p0.cap⟩]) rfl rfl
  refine of_ok (p0 := ⟨some ⟨k2, 0, none⟩, 2, 2⟩) (g := h3) (ss := [⟨some ⟨k1, 0, none⟩, 2, 2⟩, ⟨p0.a, body.length, p0.cap⟩]) (bss := [[197, (body.length : Int)], body]) (Hp.sub_refl h3) (r2.sub (o3.get (i := 0) rfl)) ⟨ra.sub (o3.get (i := 1) rfl), rp.sub (o3.mem (by simp [hg])), trivial⟩ (by simp) ?_ ?_
  · intro bs hbs
    simp only [List.mem_cons, List.not_mem_nil, or_false] at hbs
    rcases hbs with rfl | rfl
    · simp
    · omega
  have hbody : ([[197, (body.length : Int)], body].flatten).foldl nextV 0 = sumV (bodyV body) := by simp [sumV, bodyV]
  rw [hbody]
  refine four_ok o3 (sumV_range (bodyV_byte hb h80)) fun s4 d4 h4 o4 w4 => ?_
  refine alloc_ob o4 fun k5 h5 o5 => ?_
  have r5 : Row cSl (ob k5 _ 27) ⟨some ⟨k5, 0, none⟩, 3, 3⟩ [⟨some ⟨k1, 0, none⟩, 2, 2⟩, ⟨p0.a, body.length, p0.cap⟩, s4] := row_ob (cd := cSl) (xs := [⟨some ⟨k1, 0, none⟩, 2, 2⟩, ⟨p0.a, body.length, p0.cap⟩, s4]) rfl rfl
  refine concat_ok (p0 := ⟨some ⟨k5, 0, none⟩, 3, 3⟩) (bss := [[197, (body.length : Int)], body, fourV (sumV (bodyV body))]) o5 (List.mem_cons_self ..) r5 ?_ rfl ?_ (by simp) fun s6 d6 h6 o6 w6 => ?_
  · intro i s bs hs hbs
    match i, hs, hbs with
    | 0, hs, hbs => cases hs; cases hbs; exact ⟨_, by simp, ra⟩
    | 1, hs, hbs => cases hs; cases hbs; exact ⟨g, by simp [hg], rp⟩
    | 2, hs, hbs => cases hs; cases hbs; exact ⟨d4, by simp, w4.row⟩
    | i + 3, hs, hbs => cases hs
  · simp [fourV_len]; omega
  have hfr : [[197, (body.length : Int)], body, fourV (sumV (bodyV body))].flatten = frameV body := by simp [frameV, bodyV]
  rw [hfr] at w6
  exact h1 h80 s6 d6 h6 (o6.pick [0] 5 (by decide) (by decide)) w6
theorem shr_u32 (n : Int) (k : Nat) (hk : k ≤ 32) : shrI .u32 n (k : Int) = n / (2 ^ k : Nat) := by
  show n.fdiv (2 ^ (min ((k : Int)).toNat 32)) = _
  rw [show min ((k : Int)).toNat 32 = k by omega, Int.fdiv_eq_ediv_of_nonneg _ (Int.le_of_lt (Int.pow_pos (by decide)))]
  simp
theorem rput6_ok {p0 : Sl} {g h : Hp} {l : List Hp} {body : List Int} (o : On h l) (hg : g ∈ l) (r : Row (cI .u8) g p0 body) (hb : Bytes body) (hl : body.length ≤ 1000000) {Q : Sl × Bool → Hp → Prop}
    (h0 : 80 < body.length → Q (⟨none, 0, 0⟩, false) h) (h1 : body.length ≤ 80 → ∀ s d h', On h' (d :: l) → Own (cI .u8) d s (frameV body) → Q (s, true) h') : callP Tryz.prog 71 [Value.slice p0.a p0.len p0.cap] (tupC [cSl, cB]) h Q := by
  refine c71 ?_
  unfold F71
  have hlen := r.1
  refine cond_d (fun hgt => h0 (by omega)) fun hle => ?_
  have h80 : body.length ≤ 80 := by omega
  rw [hlen, byteLen h80]
  refine alloc_ob o fun k1 h2 o2 => ?_
  have w2 : Own (cI .u8) (ob k1 [Value.int .u8 197, Value.int .u8 (body.length : Int)] 5) ⟨some ⟨k1, 0, none⟩, 2, 2⟩ [197, (body.length : Int)] := own_ob (rest := []) rfl rfl rfl
  have rp : Row (cI .u8) g ⟨p0.a, body.length, p0.cap⟩ body := by rw [← hlen]; exact r
  refine append_own (g := g) (s := ⟨some ⟨k1, 0, none⟩, 2, 2⟩) (t := ⟨p0.a, body.length, p0.cap⟩) o2 rfl w2 (by decide) rp (o2.mem (by simp [hg])) (by unfold roomP; simp; omega) fun d3 p3 n3 m3 h3 o3 w3 => ?_
  have w3 : Own (cI .u8) d3 ⟨p3, n3, m3⟩ (bodyV body) := w3
  have hbl : (bodyV body).length = body.length + 2 := by simp [bodyV]
  refine rof_ok (p0 := ⟨p3, n3, m3⟩) (o3.get (i := 0) rfl) w3.row (by omega) ?_
  have hs := sumV_range (bodyV_byte hb h80)
  have hsv : (bodyV body).foldl nextV 0 = sumV (bodyV body) := rfl
  rw [hsv]
  refine ⟨by decide, by decide, by decide, ?_⟩
  refine alloc_ob o3 fun k4 h4 o4 => ?_
  have e4 : [Value.int .u8 (IntKind.u8.wrap (shrI .u32 (sumV (bodyV body)) 24)), Value.int .u8 (IntKind.u8.wrap (shrI .u32 (sumV (bodyV body)) 16)), Value.int .u8 (IntKind.u8.wrap (shrI .u32 (sumV (bodyV body)) 8)), Value.int .u8 (IntKind.u8.wrap (sumV (bodyV body)))] =
      cellsL (cI .u8) (fourV (sumV (bodyV body))) := by
    have a1 : shrI .u32 (sumV (bodyV body)) 24 = sumV (bodyV body) / 16777216 := shr_u32 _ 24 (by decide)
    have a2 : shrI .u32 (sumV (bodyV body)) 16 = sumV (bodyV body) / 65536 := shr_u32 _ 16 (by decide)
    have a3 : shrI .u32 (sumV (bodyV body)) 8 = sumV (bodyV body) / 256 := shr_u32 _ 8 (by decide)
    rw [a1, a2, a3, wrap8, wrap8, wrap8, wrap8]
    rfl
  rw [e4] at o4
  have r4 : Row (cI .u8) (ob k4 (cellsL (cI .u8) (fourV (sumV (bodyV body)))) 5) ⟨some ⟨k4, 0, none⟩, 4, 4⟩ (fourV (sumV (bodyV body))) := row_ob rfl rfl
  refine append_own (s := ⟨p3, n3, m3⟩) (t := ⟨some ⟨k4, 0, none⟩, 4, 4⟩) o4.swap rfl w3 (by decide) r4 (o4.get (i := 0) rfl) (by unfold roomP; rw [hbl, fourV_len]; omega) fun d5 p5 n5 m5 h5 o5 w5 => ?_
  exact h1 h80 _ d5 h5 (o5.sublist (by simp)) w5
/-- What bytes that begin with so much are. -/
theorem frameG_cons {y : Int} {l : List Int} (hy : 0 ≤ y ∧ y ≤ 80) : frameG (197 :: y :: l) = if y.toNat + 4 ≤ l.length ∧ (l.drop y.toNat).take 4 = fourV (sumV (197 :: y :: l.take y.toNat)) then some (l.take y.toNat, y.toNat + 6) else none := by
  show frameH 197 y l = _
  unfold frameH
  by_cases hc : y.toNat + 4 ≤ l.length ∧ (l.drop y.toNat).take 4 = fourV (sumV (197 :: y :: l.take y.toNat))
  · rw [if_pos hc, if_pos ⟨rfl, hy.2, hc.1, hc.2⟩]
  · rw [if_neg hc, if_neg (fun h => hc h.2.2)]
theorem frameG_head {x y : Int} {l : List Int} (h : x ≠ 197 ∨ 80 < y) : frameG (x :: y :: l) = none := by
  show frameH x y l = _
  unfold frameH
  rw [if_neg (by rintro ⟨h1, h2, _⟩; omega)]
theorem frameG_few {bs : List Int} (h : bs.length < 2) : frameG bs = none := by
  match bs, h with
  | [], _ => rfl
  | [_], _ => rfl
  | _ :: _ :: _, h => simp at h; omega
theorem get6_ok {p0 : Sl} {g h : Hp} {l : List Hp} {bs : List Int} (o : On h l) (hg : g ∈ l) (r : Row (cI .u8) g p0 bs) (hb : Bytes bs) (hcap : bs.length ≤ p0.cap) (hl : bs.length ≤ 1000000) {Q : Sl × Int × Bool → Hp → Prop}
    (h0 : frameG bs = none → ∀ h', On h' l → Q (⟨none, 0, 0⟩, 0, false) h') (h1 : ∀ body k, frameG bs = some (body, k) → ∀ s d h', On h' (d :: l) → Own (cI .u8) d s body → Q (s, (k : Int), true) h') :
    callP Tryz.prog 46 [Value.slice p0.a p0.len p0.cap] (tupC [cSl, cI .i64, cB]) h Q := by
  refine c46 ?_
  unfold F46
  have hlen := r.1
  have hgs : g.sub h := o.mem hg
  refine join_i (fun t h' => h' = h ∧ (t = true → frameG bs = none) ∧ (t = false → ∃ y t, bs = 197 :: y :: t ∧ y ≤ 80)) ?_ fun J2 hJ2 => ?_
  · rintro t h' ⟨rfl, ht, hf⟩
    refine cond_i (fun e => h0 (ht e) _ o) fun e => ?_
    obtain ⟨y, t, hbs, hy80⟩ := hf e
    subst hbs
    have hy := hb y (by simp)
    obtain ⟨Y, rfl⟩ : ∃ Y : Nat, y = Y := ⟨y.toNat, by omega⟩
    have hfg := frameG_cons (y := (Y : Int)) (l := t) ⟨by omega, hy80⟩
    rw [Int.toNat_natCast] at hfg
    have hll : p0.len = t.length + 2 := by rw [hlen]; rfl
    have hcap' : t.length + 2 ≤ p0.cap := by simpa using hcap
    refine idx_row r (by omega) (by simp; omega) fun a ha => load_row r hgs rfl ha (i := 1) (m := 1) rfl rfl ?_
    have e1 : IntKind.i64.wrap ((Y : Nat) : Int) = (Y : Int) := w64 (by omega) (by omega)
    have e2 : IntKind.i64.wrap (2 + ((Y : Nat) : Int)) = ((Y + 2 : Nat) : Int) := by rw [w64 (by omega) (by omega)]; omega
    have e3 : IntKind.i64.wrap (((Y + 2 : Nat) : Int) + 4) = ((Y + 6 : Nat) : Int) := by rw [w64 (by omega) (by omega)]; omega
    simp only [e1, e2, e3]
    refine join_i (fun t2 h2 => (∃ la, On h2 (la ++ l)) ∧ t2 = decide (¬ (Y + 4 ≤ t.length ∧ (t.drop Y).take 4 = fourV (sumV (197 :: (Y : Int) :: t.take Y))))) ?_ fun J1 hJ1 => ?_
    · rintro t2 h2 ⟨⟨la, o2⟩, rfl⟩
      have o2' : On h2 l := o2.sublist (List.sublist_append_right _ _)
      refine cond_d (fun hno => ?_) fun hyes => ?_
      · rw [if_neg hno] at hfg
        exact h0 hfg _ o2'
      · have hyes := Decidable.not_not.1 hyes
        rw [if_pos hyes] at hfg
        refine ⟨by omega, by omega, by omega, ?_⟩
        have rc := r.cut (k := 2) (m := Y + 2) (cap' := p0.cap - 2) (by omega) (by simp; omega) hcap rfl (z := 1) rfl
        obtain ⟨gi, hgi⟩ := List.getElem?_of_mem hg
        have hdr : (((197 : Int) :: (Y : Int) :: t).drop 2).take (Y + 2 - 2) = t.take Y := by simp
        rw [hdr] at rc
        have hz1 : ((((Y + 2 : Nat) : Int)).toNat) = Y + 2 := by omega
        have hz2 : ((2 : Int)).toNat = 2 := rfl
        simp only [hz1, hz2]
        refine clone_ok (p0 := ⟨cutA p0.a 2 p0.cap 1, Y + 2 - 2, p0.cap - 2⟩) o2' hgi rc (by simp; omega) fun s3 d3 h3 o3 w3 => ?_
        exact h1 _ _ hfg s3 d3 h3 o3 w3
    · refine cond_d (fun hshort => hJ1 _ _ ⟨⟨[], o⟩, ?_⟩) fun hlong => ?_
      · rw [decide_eq_true]
        rintro ⟨h4, _⟩
        omega
      · refine ⟨by omega, by omega, ?_⟩
        refine ⟨by omega, by omega, by omega, ?_⟩
        have hz0 : ((((Y + 2 : Nat) : Int)).toNat) = Y + 2 := by omega
        have hz6 : ((((Y + 6 : Nat) : Int)).toNat) = Y + 6 := by omega
        simp only [hz0, hz6]
        have ra := r.cut (k := 0) (m := Y + 2) (cap' := p0.cap - 0) (by omega) (by simp; omega) hcap rfl (z := 1) rfl
        have rb := r.cut (k := Y + 2) (m := Y + 6) (cap' := p0.cap - (Y + 2)) (by omega) (by simp; omega) hcap rfl (z := 1) rfl
        have ea : (((197 : Int) :: (Y : Int) :: t).drop 0).take (Y + 2 - 0) = 197 :: (Y : Int) :: t.take Y := by simp
        have eb : (((197 : Int) :: (Y : Int) :: t).drop (Y + 2)).take (Y + 6 - (Y + 2)) = (t.drop Y).take 4 := by
          rw [show Y + 6 - (Y + 2) = 4 by omega]; rfl
        rw [ea] at ra
        rw [eb] at rb
        refine alloc_ob o fun k7 h4 o4 => ?_
        refine of1_ok (s := ⟨cutA p0.a 0 p0.cap 1, Y + 2 - 0, p0.cap - 0⟩) o4 0 rfl (ra.sub (o4.mem (by simp [hg]))) (by simp; omega) ?_
        have hby : Bytes (197 :: (Y : Int) :: t.take Y) := by
          intro b hb'
          simp only [List.mem_cons] at hb'
          rcases hb' with rfl | rfl | hb'
          · omega
          · omega
          · exact hb b (by simp [List.mem_of_mem_take hb'])
        have hs := sumV_range hby
        have hsv : (197 :: (Y : Int) :: t.take Y).foldl nextV 0 = sumV (197 :: (Y : Int) :: t.take Y) := rfl
        rw [hsv]
        refine four_ok o4 hs fun s5 d5 h5 o5 w5 => ?_
        refine c75 (p1 := ⟨cutA p0.a (Y + 2) p0.cap 1, Y + 6 - (Y + 2), p0.cap - (Y + 2)⟩) ?_
        unfold F75
        refine str_row w5.row (o5.get (i := 0) rfl) (str_row rb (o5.mem (by simp [hg])) ?_)
        refine hJ1 _ _ ⟨⟨[d5, _], o5⟩, ?_⟩
        have hbt : Bytes ((t.drop Y).take 4) := by
          intro b hb'
          exact hb b (by simp [List.mem_of_mem_drop (List.mem_of_mem_take hb')])
        rw [strEq_mk (fourV_byte _) hbt]
        rw [Bool.eq_iff_iff]
        simp only [Bool.not_eq_true', decide_eq_false_iff_not, decide_eq_true_iff]
        constructor
        · rintro hne ⟨_, he⟩; exact hne he.symm
        · intro hne he; exact hne ⟨by omega, he.symm⟩
  · refine cond_d (fun hshort => hJ2 _ _ ⟨rfl, fun _ => frameG_few (by omega), fun h => by cases h⟩) fun hlong => ?_
    match bs, r, hb, hcap, hl, h0, h1, hlen, hJ2 with
    | [], _, _, _, _, _, _, hlen, _ => simp at hlen; omega
    | [_], _, _, _, _, _, _, hlen, _ => simp at hlen; omega
    | x :: y :: t, r, hb, hcap, hl, h0, h1, hlen, hJ2 =>
      refine idx_row r (by omega) (by simp; omega) fun a ha => load_row r hgs rfl ha (i := 0) (m := 0) rfl rfl ?_
      refine cond_i (fun hne => ?_) fun heq => ?_
      · have hne : x ≠ 197 := by simpa using hne
        exact hJ2 _ _ ⟨rfl, fun _ => frameG_head (.inl hne), fun h => by cases h⟩
      · have heq : x = 197 := by simpa using heq
        subst heq
        refine idx_row r (by omega) (by simp; omega) fun a ha => load_row r hgs rfl ha (i := 1) (m := 1) rfl rfl ?_
        refine hJ2 _ _ ⟨rfl, fun h => frameG_head (.inr (by have := of_decide_eq_true h; omega)), fun h => ⟨y, t, rfl, by have := of_decide_eq_false h; omega⟩⟩
theorem rget6_ok {p0 : Sl} {g h : Hp} {l : List Hp} {bs : List Int} (o : On h l) (hg : g ∈ l) (r : Row (cI .u8) g p0 bs) (hb : Bytes bs) (hcap : bs.length ≤ p0.cap) (hl : bs.length ≤ 1000000) {Q : Sl × Int × Bool → Hp → Prop}
    (h0 : frameG bs = none → ∀ h', On h' l → Q (⟨none, 0, 0⟩, 0, false) h') (h1 : ∀ body k, frameG bs = some (body, k) → ∀ s d h', On h' (d :: l) → Own (cI .u8) d s body → Q (s, (k : Int), true) h') :
    callP Tryz.prog 56 [Value.slice p0.a p0.len p0.cap] (tupC [cSl, cI .i64, cB]) h Q := by
  refine c56 ?_
  unfold F56
  have hlen := r.1
  have hgs : g.sub h := o.mem hg
  refine join_i (fun t h' => h' = h ∧ (t = true → frameG bs = none) ∧ (t = false → ∃ y t, bs = 197 :: y :: t ∧ y ≤ 80 ∧ y.toNat + 4 ≤ t.length)) ?_ fun J2 hJ2 => ?_
  · rintro t h' ⟨rfl, ht, hf⟩
    refine cond_i (fun e => h0 (ht e) _ o) fun e => ?_
    obtain ⟨y, t, hbs, hy80, hyt⟩ := hf e
    subst hbs
    have hy := hb y (by simp)
    obtain ⟨Y, rfl⟩ : ∃ Y : Nat, y = Y := ⟨y.toNat, by omega⟩
    rw [Int.toNat_natCast] at hyt
    have hfg := frameG_cons (y := (Y : Int)) (l := t) ⟨by omega, hy80⟩
    rw [Int.toNat_natCast] at hfg
    have hll : p0.len = t.length + 2 := by rw [hlen]; rfl
    have hcap' : t.length + 2 ≤ p0.cap := by simpa using hcap
    refine idx_row r (by omega) (by simp; omega) fun a ha => load_row r hgs rfl ha (i := 1) (m := 1) rfl rfl ?_
    have e1 : IntKind.i64.wrap ((Y : Nat) : Int) = (Y : Int) := w64 (by omega) (by omega)
    have e2 : IntKind.i64.wrap (6 + ((Y : Nat) : Int)) = ((Y + 6 : Nat) : Int) := by rw [w64 (by omega) (by omega)]; omega
    have e3 : IntKind.i64.wrap (((Y + 6 : Nat) : Int) - 4) = ((Y + 2 : Nat) : Int) := by rw [w64 (by omega) (by omega)]; omega
    simp only [e1, e2, e3]
    refine alloc_ob o fun k1 h2 o2 => ?_
    refine ⟨by omega, by omega, by omega, ?_⟩
    have hz1 : ((((Y + 2 : Nat) : Int)).toNat) = Y + 2 := by omega
    have hz2 : ((2 : Int)).toNat = 2 := rfl
    have hz6 : ((((Y + 6 : Nat) : Int)).toNat) = Y + 6 := by omega
    simp only [hz1, hz2]
    have rc := r.cut (k := 2) (m := Y + 2) (cap' := 0) (by omega) (by simp; omega) hcap rfl (z := 1) rfl
    have hdr : (((197 : Int) :: (Y : Int) :: t).drop 2).take (Y + 2 - 2) = t.take Y := by simp
    rw [hdr] at rc
    have w0 : Own (cI .u8) (ob k1 [] 5) ⟨some ⟨k1, 0, none⟩, 0, 0⟩ [] := own_ob (cd := cI .u8) (xs := []) (rest := []) rfl rfl rfl
    refine append_own (g := g) (s := ⟨some ⟨k1, 0, none⟩, 0, 0⟩) (t := ⟨cutA p0.a 2 p0.cap 1, Y + 2 - 2, 0⟩) o2 rfl w0 (by decide) rc (o2.mem (by simp [hg])) (by unfold roomP; simp; omega) fun d3 p3 n3 m3 h3 o3 w3 => ?_
    have w3 : Own (cI .u8) d3 ⟨p3, n3, m3⟩ (t.take Y) := w3
    have htl : (t.take Y).length = Y := by rw [List.length_take]; omega
    have hbt : Bytes (t.take Y) := by
      intro b hb'
      exact hb b (by simp [List.mem_of_mem_take hb'])
    refine rput6_ok (p0 := ⟨p3, n3, m3⟩) o3 (List.mem_cons_self ..) w3.row hbt (by omega) (fun hbad => by omega) fun _ s4 d4 h4 o4 w4 => ?_
    refine ⟨by omega, by omega, ?_⟩
    have ra := r.cut (k := 0) (m := Y + 6) (cap' := 0) (by omega) (by simp; omega) hcap rfl (z := 1) rfl
    rw [List.drop_zero, Nat.sub_zero] at ra
    refine str_row w4.row (o4.get (i := 0) rfl) (str_row ra (o4.mem (by simp [hg])) ?_)
    rw [strEq_mk (frameV_byte hbt (by omega)) (hb.take _)]
    have hfv : frameV (t.take Y) = 197 :: (Y : Int) :: (t.take Y ++ fourV (sumV (197 :: (Y : Int) :: t.take Y))) := by
      unfold frameV bodyV; rw [htl]; rfl
    have htk : ((197 : Int) :: (Y : Int) :: t).take (Y + 6) = 197 :: (Y : Int) :: (t.take Y ++ (t.drop Y).take 4) := by
      rw [show Y + 6 = (Y + 4) + 1 + 1 by omega, List.take_succ_cons, List.take_succ_cons, List.take_add]
    by_cases he : (t.drop Y).take 4 = fourV (sumV (197 :: (Y : Int) :: t.take Y))
    · rw [if_pos ⟨hyt, he⟩] at hfg
      refine cond_f (by rw [hfv, htk, he]; simp) ?_
      exact h1 _ _ hfg _ d3 h4 o4.tail w3
    · rw [if_neg (fun h => he h.2)] at hfg
      refine cond_t ?_ (h0 hfg _ o4.tail.tail)
      rw [hfv, htk]
      simp only [Bool.not_eq_true', decide_eq_false_iff_not]
      intro hh
      injection hh with _ hh
      injection hh with _ hh
      exact he (List.append_cancel_left hh).symm
  · refine cond_d (fun hshort => hJ2 _ _ ⟨rfl, fun _ => ?_, fun h => by cases h⟩) fun hlong => ?_
    · by_cases h2 : bs.length < 2
      · exact frameG_few h2
      · cases hf : frameG bs with
        | none => rfl
        | some x =>
          obtain ⟨body, k⟩ := x
          obtain ⟨_, a2, _, a4⟩ := frameG_inv hb hf
          omega
    match bs, r, hb, hcap, hl, h0, h1, hlen, hJ2 with
    | [], _, _, _, _, _, _, hlen, _ => simp at hlen; omega
    | [_], _, _, _, _, _, _, hlen, _ => simp at hlen; omega
    | x :: y :: t, r, hb, hcap, hl, h0, h1, hlen, hJ2 =>
      have hy := hb y (by simp)
      refine idx_row r (by omega) (by simp; omega) fun a ha => load_row r hgs rfl ha (i := 0) (m := 0) rfl rfl ?_
      refine cond_i (fun hne => ?_) fun heq => ?_
      · have hne : x ≠ 197 := by simpa using hne
        exact hJ2 _ _ ⟨rfl, fun _ => frameG_head (.inl hne), fun h => by cases h⟩
      · have heq : x = 197 := by simpa using heq
        subst heq
        refine idx_row r (by omega) (by simp; omega) fun a ha => load_row r hgs rfl ha (i := 1) (m := 1) rfl rfl ?_
        rw [w64 (n := y) (by omega) (by omega)]
        refine cond_d (fun hbig => hJ2 _ _ ⟨rfl, fun _ => frameG_head (.inr (by omega)), fun h => by cases h⟩) fun hsmall => ?_
        refine idx_row r (by omega) (by simp; omega) fun a ha => load_row r hgs rfl ha (i := 1) (m := 1) rfl rfl ?_
        rw [w64 (n := y) (by omega) (by omega), w64 (n := 6 + y) (by omega) (by omega)]
        have hlen2 : p0.len = t.length + 2 := by rw [hlen]; rfl
        refine hJ2 _ _ ⟨rfl, fun h => ?_, fun h => ⟨y, t, rfl, by omega, by have := of_decide_eq_false h; omega⟩⟩
        have h := of_decide_eq_true h
        rw [frameG_cons ⟨hy.1, by omega⟩, if_neg (by rintro ⟨h4, _⟩; omega)]
theorem frame_nil : frameV [] = [197, 0, 1, 141, 0, 199] := by decide +kernel
end Go.Proofs.YtmkgcdgpokidjaaGreat

/- Chapter 6: the laws. -/
namespace Go.Proofs.YtmkgcdgpokidjaaGreat
open Go.Eng

theorem frameG_turned {xa : List Int} (hb : Bytes xa) (hl : xa.length ≤ 80) {j : Nat} {x y : Int} (hj : (frameV xa)[j]? = some x) (hy : 0 ≤ y ∧ y < 256) (h0 : y ≠ 0) (h1 : j ≠ 1) : frameG ((frameV xa).set j (xorI .u8 x y)) = none := by
  have hfb := frameV_byte hb hl
  have hxb := hfb x (List.mem_of_getElem? hj)
  have hne := xor8_ne hxb hy h0
  have hlt : j < (frameV xa).length := (List.getElem?_eq_some_iff.1 hj).1
  have hsb : Bytes ((frameV xa).set j (xorI .u8 x y)) := by
    intro b hm
    rcases List.mem_or_eq_of_mem_set hm with hm | rfl
    · exact hfb b hm
    · exact xor8_range x y
  cases hf : frameG ((frameV xa).set j (xorI .u8 x y)) with
  | none => rfl
  | some r =>
    exfalso
    obtain ⟨body, k⟩ := r
    obtain ⟨b80, rfl, htk, hkl⟩ := frameG_inv hsb hf
    have hla := frameV_len xa
    have hlb := frameV_len body
    have hsec : ((frameV xa).set j (xorI .u8 x y))[1]? = some (xa.length : Int) := by
      rw [List.getElem?_set_ne h1]; rfl
    have hsec2 : (((frameV xa).set j (xorI .u8 x y)).take (body.length + 6))[1]? = some (xa.length : Int) := by
      rw [List.getElem?_take_of_lt (by omega)]; exact hsec
    rw [htk] at hsec2
    have hlen : body.length = xa.length := by
      have : some ((body.length : Nat) : Int) = some (xa.length : Int) := hsec2
      injection this with this
      omega
    rw [List.take_of_length_le (by rw [List.length_set]; omega)] at htk
    have hbl : (bodyV xa).length = xa.length + 2 := by simp [bodyV]
    have hbl2 : (bodyV body).length = xa.length + 2 := by simp [bodyV, hlen]
    by_cases hin : j < (bodyV xa).length
    · have e1 : (bodyV xa).set j (xorI .u8 x y) ++ fourV (sumV (bodyV xa)) = bodyV body ++ fourV (sumV (bodyV body)) := by
        rw [← List.set_append_left _ _ hin]; exact htk
      obtain ⟨e2, e3⟩ := List.append_inj e1 (by rw [List.length_set]; omega)
      have hxj : (bodyV xa)[j]? = some x := by
        rw [← hj]; unfold frameV; rw [List.getElem?_append_left hin]
      have hbody : Bytes (bodyV body) := by
        rw [← e2]
        intro b hm
        rcases List.mem_or_eq_of_mem_set hm with hm | rfl
        · exact bodyV_byte hb hl b hm
        · exact xor8_range x y
      have e4 := fourV_inj (sumV_range (bodyV_byte hb hl)) (sumV_range hbody) e3
      refine turned_ne (bodyV_byte hb hl) hxj hy h0 ?_
      rw [e2]
      exact e4.symm
    · have e1 : bodyV xa ++ (fourV (sumV (bodyV xa))).set (j - (bodyV xa).length) (xorI .u8 x y) = bodyV body ++ fourV (sumV (bodyV body)) := by
        rw [← List.set_append_right _ _ (by omega)]; exact htk
      obtain ⟨e2, e3⟩ := List.append_inj e1 (by omega)
      rw [← e2] at e3
      have hxj : (fourV (sumV (bodyV xa)))[j - (bodyV xa).length]? = some x := by
        rw [← hj]; unfold frameV; rw [List.getElem?_append_right (by omega)]
      have hjl := (List.getElem?_eq_some_iff.1 hxj).1
      have e4 := congrArg (·[j - (bodyV xa).length]?) e3
      rw [List.getElem?_set_self hjl, hxj] at e4
      injection e4 with e4
      exact hne e4
theorem frameG_cut {xa : List Int} (hb : Bytes xa) (hl : xa.length ≤ 80) {k : Nat} (hk : k < (frameV xa).length) : frameG ((frameV xa).take k) = none := by
  have hfb := frameV_byte hb hl
  have hla := frameV_len xa
  have htl : ((frameV xa).take k).length = k := by rw [List.length_take]; omega
  by_cases h2 : k < 2
  · exact frameG_few (by omega)
  · cases hf : frameG ((frameV xa).take k) with
    | none => rfl
    | some r =>
      exfalso
      obtain ⟨body, m⟩ := r
      obtain ⟨b80, rfl, htk, hkl⟩ := frameG_inv (hfb.take k) hf
      have hsec : (((frameV xa).take k).take (body.length + 6))[1]? = some (xa.length : Int) := by
        rw [List.getElem?_take_of_lt (by omega), List.getElem?_take_of_lt (by omega)]; rfl
      rw [htk] at hsec
      have : some ((body.length : Nat) : Int) = some (xa.length : Int) := hsec
      injection this with this
      omega
theorem zeros_row : ∀ n : Nat, zerosL n [Value.int .u8 0] = cellsL (cI .u8) (List.replicate n 0)
  | 0 => rfl
  | n + 1 => by
    rw [List.replicate_succ]
    show Value.int .u8 0 :: zerosL n [Value.int .u8 0] = Value.int .u8 0 :: cellsL (cI .u8) (List.replicate n 0)
    rw [zeros_row n]
theorem u8_of {W : World} {n : Int} (h : Opn Tryz.prog W 5 [.int .u8 n]) : 0 ≤ n ∧ n < 256 := by
  obtain ⟨x, hx, ok⟩ := open_flat (d := 1) (ls := [(.i .u8, 5)]) h (by kernel_rfl)
  have e : n = x := by
    have : [Value.int .u8 n] = [Value.int .u8 x] := hx
    simpa using this
  have : (Lit.int .u8 x).wf = true := ok
  simp [Lit.wf, IntKind.min, IntKind.max, IntKind.signed, IntKind.bits] at this
  omega
end Go.Proofs.YtmkgcdgpokidjaaGreat
