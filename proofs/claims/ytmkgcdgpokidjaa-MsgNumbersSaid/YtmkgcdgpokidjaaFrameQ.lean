/- Chapter 6: Put, Get, of the program and of the document. -/
import Derived.Test.YtmkgcdgpokidjaaFrameP
set_option linter.unusedVariables false
namespace Go.Proofs.Ytmkgcdgpokidjaa
open Go.Eng

theorem byteLen {n : Nat} (h : n ≤ 80) : IntKind.u8.wrap ((n : Nat) : Int) = (n : Int) := by rw [wrap8]; omega
theorem put6_ok {p0 : Sl} {g h : Hp} {l : List Hp} {body : List Int} (o : On h l) (hg : g ∈ l) (r : Row (cI .u8) g p0 body) (hb : Bytes body) (hl : body.length ≤ 1000000) {Q : Sl × Bool → Hp → Prop}
    (h0 : 80 < body.length → Q (⟨none, 0, 0⟩, false) h) (h1 : body.length ≤ 80 → ∀ s d h', On h' (d :: l) → Own (cI .u8) d s (frameV body) → Q (s, true) h') : callP Try.prog 70 [Value.slice p0.a p0.len p0.cap] (tupC [cSl, cB]) h Q := by
  refine c70 ?_
  unfold F70
  have hlen := r.1
  refine cond_d (fun hgt => h0 (by omega)) fun hle => ?_
  have h80 : body.length ≤ 80 := by omega
  rw [hlen, byteLen h80]
  refine alloc_ob o fun k1 h2 o2 => ?_
  refine alloc_ob o2 fun k2 h3 o3 => ?_
  have ra : Row (cI .u8) (ob k1 [Value.int .u8 197, Value.int .u8 (body.length : Int)] 5) ⟨some ⟨k1, 0, none⟩, 2, 2⟩ [197, (body.length : Int)] := row_ob rfl rfl
  have rp : Row (cI .u8) g ⟨p0.a, body.length, p0.cap⟩ body := by rw [← hlen]; exact r
  have r2 : Row cSl (ob k2 _ 25) ⟨some ⟨k2, 0, none⟩, 2, 2⟩ [⟨some ⟨k1, 0, none⟩, 2, 2⟩, ⟨p0.a, body.length, p0.cap⟩] := row_ob (cd := cSl) (xs := [⟨some ⟨k1, 0, none⟩, 2, 2⟩, ⟨p0.a, body.length, p0.cap⟩]) rfl rfl
  refine of_ok (p0 := ⟨some ⟨k2, 0, none⟩, 2, 2⟩) (g := h3) (ss := [⟨some ⟨k1, 0, none⟩, 2, 2⟩, ⟨p0.a, body.length, p0.cap⟩]) (bss := [[197, (body.length : Int)], body]) (Hp.sub_refl h3) (r2.sub (o3.get (i := 0) rfl)) ⟨ra.sub (o3.get (i := 1) rfl), rp.sub (o3.mem (by simp [hg])), trivial⟩ (by simp) ?_ ?_
  · intro bs hbs
    simp only [List.mem_cons, List.not_mem_nil, or_false] at hbs
    rcases hbs with rfl | rfl
    · simp
    · omega
  have hbody : ([[197, (body.length : Int)], body].flatten).foldl nextV 0 = sumV (bodyV body) := by simp [sumV, bodyV]
  rw [hbody]
  refine four_ok o3 (sumV_range (bodyV_byte hb h80)) fun s4 d4 h4 o4 w4 => ?_
  refine alloc_ob o4 fun k5 h5 o5 => ?_
  have r5 : Row cSl (ob k5 _ 25) ⟨some ⟨k5, 0, none⟩, 3, 3⟩ [⟨some ⟨k1, 0, none⟩, 2, 2⟩, ⟨p0.a, body.length, p0.cap⟩, s4] := row_ob (cd := cSl) (xs := [⟨some ⟨k1, 0, none⟩, 2, 2⟩, ⟨p0.a, body.length, p0.cap⟩, s4]) rfl rfl
  refine concat_ok (p0 := ⟨some ⟨k5, 0, none⟩, 3, 3⟩) (bss := [[197, (body.length : Int)], body, fourV (sumV (bodyV body))]) o5 (List.mem_cons_self ..) r5 ?_ rfl ?_ (by simp) fun s6 d6 h6 o6 w6 => ?_
  · intro i s bs hs hbs
    match i, hs, hbs with
    | 0, hs, hbs => cases hs; cases hbs; exact ⟨_, by simp, ra⟩
    | 1, hs, hbs => cases hs; cases hbs; exact ⟨g, by simp [hg], rp⟩
    | 2, hs, hbs => cases hs; cases hbs; exact ⟨d4, by simp, w4.row⟩
    | i + 3, hs, hbs => cases hs
  · simp [fourV_len]; omega
  have hfr : [[197, (body.length : Int)], body, fourV (sumV (bodyV body))].flatten = frameV body := by simp [frameV, bodyV]
  rw [hfr] at w6
  exact h1 h80 s6 d6 h6 (o6.pick [0] 5 (by decide) (by decide)) w6

theorem shr_u32 (n : Int) (k : Nat) (hk : k ≤ 32) : shrI .u32 n (k : Int) = n / (2 ^ k : Nat) := by
  show n.fdiv (2 ^ (min ((k : Int)).toNat 32)) = _
  rw [show min ((k : Int)).toNat 32 = k by omega, Int.fdiv_eq_ediv_of_nonneg _ (Int.le_of_lt (Int.pow_pos (by decide)))]
  simp
theorem rput6_ok {p0 : Sl} {g h : Hp} {l : List Hp} {body : List Int} (o : On h l) (hg : g ∈ l) (r : Row (cI .u8) g p0 body) (hb : Bytes body) (hl : body.length ≤ 1000000) {Q : Sl × Bool → Hp → Prop}
    (h0 : 80 < body.length → Q (⟨none, 0, 0⟩, false) h) (h1 : body.length ≤ 80 → ∀ s d h', On h' (d :: l) → Own (cI .u8) d s (frameV body) → Q (s, true) h') : callP Try.prog 71 [Value.slice p0.a p0.len p0.cap] (tupC [cSl, cB]) h Q := by
  refine c71 ?_
  unfold F71
  have hlen := r.1
  refine cond_d (fun hgt => h0 (by omega)) fun hle => ?_
  have h80 : body.length ≤ 80 := by omega
  rw [hlen, byteLen h80]
  refine alloc_ob o fun k1 h2 o2 => ?_
  have w2 : Own (cI .u8) (ob k1 [Value.int .u8 197, Value.int .u8 (body.length : Int)] 5) ⟨some ⟨k1, 0, none⟩, 2, 2⟩ [197, (body.length : Int)] := own_ob (rest := []) rfl rfl rfl
  have rp : Row (cI .u8) g ⟨p0.a, body.length, p0.cap⟩ body := by rw [← hlen]; exact r
  refine append_own (g := g) (s := ⟨some ⟨k1, 0, none⟩, 2, 2⟩) (t := ⟨p0.a, body.length, p0.cap⟩) o2 rfl w2 (by decide) rp (o2.mem (by simp [hg])) (by unfold roomP; simp; omega) fun d3 p3 n3 m3 h3 o3 w3 => ?_
  have w3 : Own (cI .u8) d3 ⟨p3, n3, m3⟩ (bodyV body) := w3
  have hbl : (bodyV body).length = body.length + 2 := by simp [bodyV]
  refine rof_ok (p0 := ⟨p3, n3, m3⟩) (o3.get (i := 0) rfl) w3.row (by omega) ?_
  have hs := sumV_range (bodyV_byte hb h80)
  have hsv : (bodyV body).foldl nextV 0 = sumV (bodyV body) := rfl
  rw [hsv]
  refine ⟨by decide, by decide, by decide, ?_⟩
  refine alloc_ob o3 fun k4 h4 o4 => ?_
  have e4 : [Value.int .u8 (IntKind.u8.wrap (shrI .u32 (sumV (bodyV body)) 24)), Value.int .u8 (IntKind.u8.wrap (shrI .u32 (sumV (bodyV body)) 16)), Value.int .u8 (IntKind.u8.wrap (shrI .u32 (sumV (bodyV body)) 8)), Value.int .u8 (IntKind.u8.wrap (sumV (bodyV body)))] =
      cellsL (cI .u8) (fourV (sumV (bodyV body))) := by
    have a1 : shrI .u32 (sumV (bodyV body)) 24 = sumV (bodyV body) / 16777216 := shr_u32 _ 24 (by decide)
    have a2 : shrI .u32 (sumV (bodyV body)) 16 = sumV (bodyV body) / 65536 := shr_u32 _ 16 (by decide)
    have a3 : shrI .u32 (sumV (bodyV body)) 8 = sumV (bodyV body) / 256 := shr_u32 _ 8 (by decide)
    rw [a1, a2, a3, wrap8, wrap8, wrap8, wrap8]
    rfl
  rw [e4] at o4
  have r4 : Row (cI .u8) (ob k4 (cellsL (cI .u8) (fourV (sumV (bodyV body)))) 5) ⟨some ⟨k4, 0, none⟩, 4, 4⟩ (fourV (sumV (bodyV body))) := row_ob rfl rfl
  refine append_own (s := ⟨p3, n3, m3⟩) (t := ⟨some ⟨k4, 0, none⟩, 4, 4⟩) o4.swap rfl w3 (by decide) r4 (o4.get (i := 0) rfl) (by unfold roomP; rw [hbl, fourV_len]; omega) fun d5 p5 n5 m5 h5 o5 w5 => ?_
  exact h1 h80 _ d5 h5 (o5.sublist (by simp)) w5

/-- What bytes that begin with so much are. -/
theorem frameG_cons {y : Int} {l : List Int} (hy : 0 ≤ y ∧ y ≤ 80) : frameG (197 :: y :: l) = if y.toNat + 4 ≤ l.length ∧ (l.drop y.toNat).take 4 = fourV (sumV (197 :: y :: l.take y.toNat)) then some (l.take y.toNat, y.toNat + 6) else none := by
  show frameH 197 y l = _
  unfold frameH
  by_cases hc : y.toNat + 4 ≤ l.length ∧ (l.drop y.toNat).take 4 = fourV (sumV (197 :: y :: l.take y.toNat))
  · rw [if_pos hc, if_pos ⟨rfl, hy.2, hc.1, hc.2⟩]
  · rw [if_neg hc, if_neg (fun h => hc h.2.2)]
theorem frameG_head {x y : Int} {l : List Int} (h : x ≠ 197 ∨ 80 < y) : frameG (x :: y :: l) = none := by
  show frameH x y l = _
  unfold frameH
  rw [if_neg (by rintro ⟨h1, h2, _⟩; omega)]
theorem frameG_few {bs : List Int} (h : bs.length < 2) : frameG bs = none := by
  match bs, h with
  | [], _ => rfl
  | [_], _ => rfl
  | _ :: _ :: _, h => simp at h; omega

theorem get6_ok {p0 : Sl} {g h : Hp} {l : List Hp} {bs : List Int} (o : On h l) (hg : g ∈ l) (r : Row (cI .u8) g p0 bs) (hb : Bytes bs) (hcap : bs.length ≤ p0.cap) (hl : bs.length ≤ 1000000) {Q : Sl × Int × Bool → Hp → Prop}
    (h0 : frameG bs = none → ∀ h', On h' l → Q (⟨none, 0, 0⟩, 0, false) h') (h1 : ∀ body k, frameG bs = some (body, k) → ∀ s d h', On h' (d :: l) → Own (cI .u8) d s body → Q (s, (k : Int), true) h') :
    callP Try.prog 73 [Value.slice p0.a p0.len p0.cap] (tupC [cSl, cI .i64, cB]) h Q := by
  refine c73 ?_
  unfold F73
  have hlen := r.1
  have hgs : g.sub h := o.mem hg
  refine join_i (fun t h' => h' = h ∧ (t = true → frameG bs = none) ∧ (t = false → ∃ y t, bs = 197 :: y :: t ∧ y ≤ 80)) ?_ fun J2 hJ2 => ?_
  · rintro t h' ⟨rfl, ht, hf⟩
    refine cond_i (fun e => h0 (ht e) _ o) fun e => ?_
    obtain ⟨y, t, hbs, hy80⟩ := hf e
    subst hbs
    have hy := hb y (by simp)
    obtain ⟨Y, rfl⟩ : ∃ Y : Nat, y = Y := ⟨y.toNat, by omega⟩
    have hfg := frameG_cons (y := (Y : Int)) (l := t) ⟨by omega, hy80⟩
    rw [Int.toNat_natCast] at hfg
    have hll : p0.len = t.length + 2 := by rw [hlen]; rfl
    have hcap' : t.length + 2 ≤ p0.cap := by simpa using hcap
    refine idx_row r (by omega) (by simp; omega) fun a ha => load_row r hgs rfl ha (i := 1) (m := 1) rfl rfl ?_
    have e1 : IntKind.i64.wrap ((Y : Nat) : Int) = (Y : Int) := w64 (by omega) (by omega)
    have e2 : IntKind.i64.wrap (2 + ((Y : Nat) : Int)) = ((Y + 2 : Nat) : Int) := by rw [w64 (by omega) (by omega)]; omega
    have e3 : IntKind.i64.wrap (((Y + 2 : Nat) : Int) + 4) = ((Y + 6 : Nat) : Int) := by rw [w64 (by omega) (by omega)]; omega
    simp only [e1, e2, e3]
    refine join_i (fun t2 h2 => (∃ la, On h2 (la ++ l)) ∧ t2 = decide (¬ (Y + 4 ≤ t.length ∧ (t.drop Y).take 4 = fourV (sumV (197 :: (Y : Int) :: t.take Y))))) ?_ fun J1 hJ1 => ?_
    · rintro t2 h2 ⟨⟨la, o2⟩, rfl⟩
      have o2' : On h2 l := o2.sublist (List.sublist_append_right _ _)
      refine cond_d (fun hno => ?_) fun hyes => ?_
      · rw [if_neg hno] at hfg
        exact h0 hfg _ o2'
      · have hyes := Decidable.not_not.1 hyes
        rw [if_pos hyes] at hfg
        refine ⟨by omega, by omega, by omega, ?_⟩
        have rc := r.cut (k := 2) (m := Y + 2) (cap' := p0.cap - 2) (by omega) (by simp; omega) hcap rfl (z := 1) rfl
        obtain ⟨gi, hgi⟩ := List.getElem?_of_mem hg
        have hdr : (((197 : Int) :: (Y : Int) :: t).drop 2).take (Y + 2 - 2) = t.take Y := by simp
        rw [hdr] at rc
        have hz1 : ((((Y + 2 : Nat) : Int)).toNat) = Y + 2 := by omega
        have hz2 : ((2 : Int)).toNat = 2 := rfl
        simp only [hz1, hz2]
        refine clone_ok (p0 := ⟨cutA p0.a 2 p0.cap 1, Y + 2 - 2, p0.cap - 2⟩) o2' hgi rc (by simp; omega) fun s3 d3 h3 o3 w3 => ?_
        exact h1 _ _ hfg s3 d3 h3 o3 w3
    · refine cond_d (fun hshort => hJ1 _ _ ⟨⟨[], o⟩, ?_⟩) fun hlong => ?_
      · rw [decide_eq_true]
        rintro ⟨h4, _⟩
        omega
      · refine ⟨by omega, by omega, ?_⟩
        refine ⟨by omega, by omega, by omega, ?_⟩
        have hz0 : ((((Y + 2 : Nat) : Int)).toNat) = Y + 2 := by omega
        have hz6 : ((((Y + 6 : Nat) : Int)).toNat) = Y + 6 := by omega
        simp only [hz0, hz6]
        have ra := r.cut (k := 0) (m := Y + 2) (cap' := p0.cap - 0) (by omega) (by simp; omega) hcap rfl (z := 1) rfl
        have rb := r.cut (k := Y + 2) (m := Y + 6) (cap' := p0.cap - (Y + 2)) (by omega) (by simp; omega) hcap rfl (z := 1) rfl
        have ea : (((197 : Int) :: (Y : Int) :: t).drop 0).take (Y + 2 - 0) = 197 :: (Y : Int) :: t.take Y := by simp
        have eb : (((197 : Int) :: (Y : Int) :: t).drop (Y + 2)).take (Y + 6 - (Y + 2)) = (t.drop Y).take 4 := by
          rw [show Y + 6 - (Y + 2) = 4 by omega]; rfl
        rw [ea] at ra
        rw [eb] at rb
        refine alloc_ob o fun k7 h4 o4 => ?_
        refine of1_ok (s := ⟨cutA p0.a 0 p0.cap 1, Y + 2 - 0, p0.cap - 0⟩) o4 0 rfl (ra.sub (o4.mem (by simp [hg]))) (by simp; omega) ?_
        have hby : Bytes (197 :: (Y : Int) :: t.take Y) := by
          intro b hb'
          simp only [List.mem_cons] at hb'
          rcases hb' with rfl | rfl | hb'
          · omega
          · omega
          · exact hb b (by simp [List.mem_of_mem_take hb'])
        have hs := sumV_range hby
        have hsv : (197 :: (Y : Int) :: t.take Y).foldl nextV 0 = sumV (197 :: (Y : Int) :: t.take Y) := rfl
        rw [hsv]
        refine four_ok o4 hs fun s5 d5 h5 o5 w5 => ?_
        refine c130 (p1 := ⟨cutA p0.a (Y + 2) p0.cap 1, Y + 6 - (Y + 2), p0.cap - (Y + 2)⟩) ?_
        unfold F130
        refine str_row w5.row (o5.get (i := 0) rfl) (str_row rb (o5.mem (by simp [hg])) ?_)
        refine hJ1 _ _ ⟨⟨[d5, _], o5⟩, ?_⟩
        have hbt : Bytes ((t.drop Y).take 4) := by
          intro b hb'
          exact hb b (by simp [List.mem_of_mem_drop (List.mem_of_mem_take hb')])
        rw [strEq_mk (fourV_byte _) hbt]
        rw [Bool.eq_iff_iff]
        simp only [Bool.not_eq_true', decide_eq_false_iff_not, decide_eq_true_iff]
        constructor
        · rintro hne ⟨_, he⟩; exact hne he.symm
        · intro hne he; exact hne ⟨by omega, he.symm⟩
  · refine cond_d (fun hshort => hJ2 _ _ ⟨rfl, fun _ => frameG_few (by omega), fun h => by cases h⟩) fun hlong => ?_
    match bs, r, hb, hcap, hl, h0, h1, hlen, hJ2 with
    | [], _, _, _, _, _, _, hlen, _ => simp at hlen; omega
    | [_], _, _, _, _, _, _, hlen, _ => simp at hlen; omega
    | x :: y :: t, r, hb, hcap, hl, h0, h1, hlen, hJ2 =>
      refine idx_row r (by omega) (by simp; omega) fun a ha => load_row r hgs rfl ha (i := 0) (m := 0) rfl rfl ?_
      refine cond_i (fun hne => ?_) fun heq => ?_
      · have hne : x ≠ 197 := by simpa using hne
        exact hJ2 _ _ ⟨rfl, fun _ => frameG_head (.inl hne), fun h => by cases h⟩
      · have heq : x = 197 := by simpa using heq
        subst heq
        refine idx_row r (by omega) (by simp; omega) fun a ha => load_row r hgs rfl ha (i := 1) (m := 1) rfl rfl ?_
        refine hJ2 _ _ ⟨rfl, fun h => frameG_head (.inr (by have := of_decide_eq_true h; omega)), fun h => ⟨y, t, rfl, by have := of_decide_eq_false h; omega⟩⟩

theorem rget6_ok {p0 : Sl} {g h : Hp} {l : List Hp} {bs : List Int} (o : On h l) (hg : g ∈ l) (r : Row (cI .u8) g p0 bs) (hb : Bytes bs) (hcap : bs.length ≤ p0.cap) (hl : bs.length ≤ 1000000) {Q : Sl × Int × Bool → Hp → Prop}
    (h0 : frameG bs = none → ∀ h', On h' l → Q (⟨none, 0, 0⟩, 0, false) h') (h1 : ∀ body k, frameG bs = some (body, k) → ∀ s d h', On h' (d :: l) → Own (cI .u8) d s body → Q (s, (k : Int), true) h') :
    callP Try.prog 74 [Value.slice p0.a p0.len p0.cap] (tupC [cSl, cI .i64, cB]) h Q := by
  refine c74 ?_
  unfold F74
  have hlen := r.1
  have hgs : g.sub h := o.mem hg
  refine join_i (fun t h' => h' = h ∧ (t = true → frameG bs = none) ∧ (t = false → ∃ y t, bs = 197 :: y :: t ∧ y ≤ 80 ∧ y.toNat + 4 ≤ t.length)) ?_ fun J2 hJ2 => ?_
  · rintro t h' ⟨rfl, ht, hf⟩
    refine cond_i (fun e => h0 (ht e) _ o) fun e => ?_
    obtain ⟨y, t, hbs, hy80, hyt⟩ := hf e
    subst hbs
    have hy := hb y (by simp)
    obtain ⟨Y, rfl⟩ : ∃ Y : Nat, y = Y := ⟨y.toNat, by omega⟩
    rw [Int.toNat_natCast] at hyt
    have hfg := frameG_cons (y := (Y : Int)) (l := t) ⟨by omega, hy80⟩
    rw [Int.toNat_natCast] at hfg
    have hll : p0.len = t.length + 2 := by rw [hlen]; rfl
    have hcap' : t.length + 2 ≤ p0.cap := by simpa using hcap
    refine idx_row r (by omega) (by simp; omega) fun a ha => load_row r hgs rfl ha (i := 1) (m := 1) rfl rfl ?_
    have e1 : IntKind.i64.wrap ((Y : Nat) : Int) = (Y : Int) := w64 (by omega) (by omega)
    have e2 : IntKind.i64.wrap (6 + ((Y : Nat) : Int)) = ((Y + 6 : Nat) : Int) := by rw [w64 (by omega) (by omega)]; omega
    have e3 : IntKind.i64.wrap (((Y + 6 : Nat) : Int) - 4) = ((Y + 2 : Nat) : Int) := by rw [w64 (by omega) (by omega)]; omega
    simp only [e1, e2, e3]
    refine alloc_ob o fun k1 h2 o2 => ?_
    refine ⟨by omega, by omega, by omega, ?_⟩
    have hz1 : ((((Y + 2 : Nat) : Int)).toNat) = Y + 2 := by omega
    have hz2 : ((2 : Int)).toNat = 2 := rfl
    have hz6 : ((((Y + 6 : Nat) : Int)).toNat) = Y + 6 := by omega
    simp only [hz1, hz2]
    have rc := r.cut (k := 2) (m := Y + 2) (cap' := 0) (by omega) (by simp; omega) hcap rfl (z := 1) rfl
    have hdr : (((197 : Int) :: (Y : Int) :: t).drop 2).take (Y + 2 - 2) = t.take Y := by simp
    rw [hdr] at rc
    have w0 : Own (cI .u8) (ob k1 [] 5) ⟨some ⟨k1, 0, none⟩, 0, 0⟩ [] := own_ob (cd := cI .u8) (xs := []) (rest := []) rfl rfl rfl
    refine append_own (g := g) (s := ⟨some ⟨k1, 0, none⟩, 0, 0⟩) (t := ⟨cutA p0.a 2 p0.cap 1, Y + 2 - 2, 0⟩) o2 rfl w0 (by decide) rc (o2.mem (by simp [hg])) (by unfold roomP; simp; omega) fun d3 p3 n3 m3 h3 o3 w3 => ?_
    have w3 : Own (cI .u8) d3 ⟨p3, n3, m3⟩ (t.take Y) := w3
    have htl : (t.take Y).length = Y := by rw [List.length_take]; omega
    have hbt : Bytes (t.take Y) := by
      intro b hb'
      exact hb b (by simp [List.mem_of_mem_take hb'])
    refine rput6_ok (p0 := ⟨p3, n3, m3⟩) o3 (List.mem_cons_self ..) w3.row hbt (by omega) (fun hbad => by omega) fun _ s4 d4 h4 o4 w4 => ?_
    refine ⟨by omega, by omega, ?_⟩
    have ra := r.cut (k := 0) (m := Y + 6) (cap' := 0) (by omega) (by simp; omega) hcap rfl (z := 1) rfl
    rw [List.drop_zero, Nat.sub_zero] at ra
    refine str_row w4.row (o4.get (i := 0) rfl) (str_row ra (o4.mem (by simp [hg])) ?_)
    rw [strEq_mk (frameV_byte hbt (by omega)) (hb.take _)]
    have hfv : frameV (t.take Y) = 197 :: (Y : Int) :: (t.take Y ++ fourV (sumV (197 :: (Y : Int) :: t.take Y))) := by
      unfold frameV bodyV; rw [htl]; rfl
    have htk : ((197 : Int) :: (Y : Int) :: t).take (Y + 6) = 197 :: (Y : Int) :: (t.take Y ++ (t.drop Y).take 4) := by
      rw [show Y + 6 = (Y + 4) + 1 + 1 by omega, List.take_succ_cons, List.take_succ_cons, List.take_add]
    by_cases he : (t.drop Y).take 4 = fourV (sumV (197 :: (Y : Int) :: t.take Y))
    · rw [if_pos ⟨hyt, he⟩] at hfg
      refine cond_f (by rw [hfv, htk, he]; simp) ?_
      exact h1 _ _ hfg _ d3 h4 o4.tail w3
    · rw [if_neg (fun h => he h.2)] at hfg
      refine cond_t ?_ (h0 hfg _ o4.tail.tail)
      rw [hfv, htk]
      simp only [Bool.not_eq_true', decide_eq_false_iff_not]
      intro hh
      injection hh with _ hh
      injection hh with _ hh
      exact he (List.append_cancel_left hh).symm
  · refine cond_d (fun hshort => hJ2 _ _ ⟨rfl, fun _ => ?_, fun h => by cases h⟩) fun hlong => ?_
    · by_cases h2 : bs.length < 2
      · exact frameG_few h2
      · cases hf : frameG bs with
        | none => rfl
        | some x =>
          obtain ⟨body, k⟩ := x
          obtain ⟨_, a2, _, a4⟩ := frameG_inv hb hf
          omega
    match bs, r, hb, hcap, hl, h0, h1, hlen, hJ2 with
    | [], _, _, _, _, _, _, hlen, _ => simp at hlen; omega
    | [_], _, _, _, _, _, _, hlen, _ => simp at hlen; omega
    | x :: y :: t, r, hb, hcap, hl, h0, h1, hlen, hJ2 =>
      have hy := hb y (by simp)
      refine idx_row r (by omega) (by simp; omega) fun a ha => load_row r hgs rfl ha (i := 0) (m := 0) rfl rfl ?_
      refine cond_i (fun hne => ?_) fun heq => ?_
      · have hne : x ≠ 197 := by simpa using hne
        exact hJ2 _ _ ⟨rfl, fun _ => frameG_head (.inl hne), fun h => by cases h⟩
      · have heq : x = 197 := by simpa using heq
        subst heq
        refine idx_row r (by omega) (by simp; omega) fun a ha => load_row r hgs rfl ha (i := 1) (m := 1) rfl rfl ?_
        rw [w64 (n := y) (by omega) (by omega)]
        refine cond_d (fun hbig => hJ2 _ _ ⟨rfl, fun _ => frameG_head (.inr (by omega)), fun h => by cases h⟩) fun hsmall => ?_
        refine idx_row r (by omega) (by simp; omega) fun a ha => load_row r hgs rfl ha (i := 1) (m := 1) rfl rfl ?_
        rw [w64 (n := y) (by omega) (by omega), w64 (n := 6 + y) (by omega) (by omega)]
        have hlen2 : p0.len = t.length + 2 := by rw [hlen]; rfl
        refine hJ2 _ _ ⟨rfl, fun h => ?_, fun h => ⟨y, t, rfl, by omega, by have := of_decide_eq_false h; omega⟩⟩
        have h := of_decide_eq_true h
        rw [frameG_cons ⟨hy.1, by omega⟩, if_neg (by rintro ⟨h4, _⟩; omega)]

theorem frame_nil : frameV [] = [197, 0, 1, 141, 0, 199] := by decide +kernel
theorem known6_ok {h : Hp} {l : List Hp} (o : On h l) {Q : Bool → Hp → Prop} (hq : ∀ h', On h' l → Q true h') : callP Try.prog 72 [] cB h Q := by
  refine c72 ?_
  unfold F72
  refine put6_ok (p0 := ⟨none, 0, 0⟩) (g := Hp.emp) (body := []) o.emp (List.mem_cons_self ..) (Row.nil _) (by intro b hb; cases hb) (by simp) (fun h => by simp at h) fun _ s d h1 o1 w1 => ?_
  rw [frame_nil] at w1
  have hby : Bytes [197, 0, 1, 141, 0, 199] := by rw [← frame_nil]; exact frameV_byte (by intro b hb; cases hb) (by simp)
  have hfg : frameG [197, 0, 1, 141, 0, 199] = some ([], 6) := by rw [← frame_nil]; exact frameG_self (by simp)
  refine get6_ok o1 (List.mem_cons_self ..) w1.row hby (w1.le_cap (by decide)) (by simp) (fun hn => by rw [hfg] at hn; cases hn) fun body k hk s2 d2 h2 o2 w2 => ?_
  rw [hfg] at hk
  cases hk
  refine cond_t rfl ?_
  refine str_row w1.row (o2.get (i := 1) rfl) ?_
  refine cond_t (by decide +kernel) (cond_t rfl (cond_t rfl ?_))
  have := w2.1
  rw [show ((s2.len : Int) == 0) = true by rw [this]; rfl]
  exact hq _ o2.tail.tail.tail
end Go.Proofs.Ytmkgcdgpokidjaa
