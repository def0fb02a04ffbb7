/- Chapter 6: the laws. -/
import Derived.Test.YtmkgcdgpokidjaaFrameQ
set_option linter.unusedVariables false
namespace Go.Proofs.Ytmkgcdgpokidjaa
open Go.Eng

theorem frameG_turned {xa : List Int} (hb : Bytes xa) (hl : xa.length ≤ 80) {j : Nat} {x y : Int} (hj : (frameV xa)[j]? = some x) (hy : 0 ≤ y ∧ y < 256) (h0 : y ≠ 0) (h1 : j ≠ 1) : frameG ((frameV xa).set j (xorI .u8 x y)) = none := by
  have hfb := frameV_byte hb hl
  have hxb := hfb x (List.mem_of_getElem? hj)
  have hne := xor8_ne hxb hy h0
  have hlt : j < (frameV xa).length := (List.getElem?_eq_some_iff.1 hj).1
  have hsb : Bytes ((frameV xa).set j (xorI .u8 x y)) := by
    intro b hm
    rcases List.mem_or_eq_of_mem_set hm with hm | rfl
    · exact hfb b hm
    · exact xor8_range x y
  cases hf : frameG ((frameV xa).set j (xorI .u8 x y)) with
  | none => rfl
  | some r =>
    exfalso
    obtain ⟨body, k⟩ := r
    obtain ⟨b80, rfl, htk, hkl⟩ := frameG_inv hsb hf
    have hla := frameV_len xa
    have hlb := frameV_len body
    have hsec : ((frameV xa).set j (xorI .u8 x y))[1]? = some (xa.length : Int) := by
      rw [List.getElem?_set_ne h1]; rfl
    have hsec2 : (((frameV xa).set j (xorI .u8 x y)).take (body.length + 6))[1]? = some (xa.length : Int) := by
      rw [List.getElem?_take_of_lt (by omega)]; exact hsec
    rw [htk] at hsec2
    have hlen : body.length = xa.length := by
      have : some ((body.length : Nat) : Int) = some (xa.length : Int) := hsec2
      injection this with this
      omega
    rw [List.take_of_length_le (by rw [List.length_set]; omega)] at htk
    have hbl : (bodyV xa).length = xa.length + 2 := by simp [bodyV]
    have hbl2 : (bodyV body).length = xa.length + 2 := by simp [bodyV, hlen]
    by_cases hin : j < (bodyV xa).length
    · have e1 : (bodyV xa).set j (xorI .u8 x y) ++ fourV (sumV (bodyV xa)) = bodyV body ++ fourV (sumV (bodyV body)) := by
        rw [← List.set_append_left _ _ hin]; exact htk
      obtain ⟨e2, e3⟩ := List.append_inj e1 (by rw [List.length_set]; omega)
      have hxj : (bodyV xa)[j]? = some x := by
        rw [← hj]; unfold frameV; rw [List.getElem?_append_left hin]
      have hbody : Bytes (bodyV body) := by
        rw [← e2]
        intro b hm
        rcases List.mem_or_eq_of_mem_set hm with hm | rfl
        · exact bodyV_byte hb hl b hm
        · exact xor8_range x y
      have e4 := fourV_inj (sumV_range (bodyV_byte hb hl)) (sumV_range hbody) e3
      refine turned_ne (bodyV_byte hb hl) hxj hy h0 ?_
      rw [e2]
      exact e4.symm
    · have e1 : bodyV xa ++ (fourV (sumV (bodyV xa))).set (j - (bodyV xa).length) (xorI .u8 x y) = bodyV body ++ fourV (sumV (bodyV body)) := by
        rw [← List.set_append_right _ _ (by omega)]; exact htk
      obtain ⟨e2, e3⟩ := List.append_inj e1 (by omega)
      rw [← e2] at e3
      have hxj : (fourV (sumV (bodyV xa)))[j - (bodyV xa).length]? = some x := by
        rw [← hj]; unfold frameV; rw [List.getElem?_append_right (by omega)]
      have hjl := (List.getElem?_eq_some_iff.1 hxj).1
      have e4 := congrArg (·[j - (bodyV xa).length]?) e3
      rw [List.getElem?_set_self hjl, hxj] at e4
      injection e4 with e4
      exact hne e4
theorem frameG_cut {xa : List Int} (hb : Bytes xa) (hl : xa.length ≤ 80) {k : Nat} (hk : k < (frameV xa).length) : frameG ((frameV xa).take k) = none := by
  have hfb := frameV_byte hb hl
  have hla := frameV_len xa
  have htl : ((frameV xa).take k).length = k := by rw [List.length_take]; omega
  by_cases h2 : k < 2
  · exact frameG_few (by omega)
  · cases hf : frameG ((frameV xa).take k) with
    | none => rfl
    | some r =>
      exfalso
      obtain ⟨body, m⟩ := r
      obtain ⟨b80, rfl, htk, hkl⟩ := frameG_inv (hfb.take k) hf
      have hsec : (((frameV xa).take k).take (body.length + 6))[1]? = some (xa.length : Int) := by
        rw [List.getElem?_take_of_lt (by omega), List.getElem?_take_of_lt (by omega)]; rfl
      rw [htk] at hsec
      have : some ((body.length : Nat) : Int) = some (xa.length : Int) := hsec
      injection this with this
      omega

theorem puts6 {g : Hp} {p0 p1 : Sl} {xa ys : List Int} (r0 : Row (cI .u8) g p0 xa) (r1 : Row (cI .u8) g p1 ys) (hb : Bytes xa) (hc : Bytes ys) : F17 p0 p1 g (Lawful g) := by
  unfold F17
  have l0 := r0.1
  have l1 := r1.1
  refine join_i (fun t h1 => h1 = g ∧ (t = false → xa.length ≤ 200 ∧ ys.length ≤ 100)) ?_ fun J hJ => ?_
  · rintro t h1 ⟨rfl, hf⟩
    refine cond_i (fun _ => ⟨rfl, Hp.sub_refl _⟩) fun e => ?_
    obtain ⟨h200, h100⟩ := hf e
    refine put6_ok (On.self h1) (List.mem_cons_self ..) r0 hb (by omega) (fun hbig => ?_) fun hsm s d h2 o2 w2 => ?_
    · refine rput6_ok (On.self h1) (List.mem_cons_self ..) r0 hb (by omega) (fun _ => ?_) (fun h => by omega)
      refine join_i (fun t h' => h' = h1 ∧ t = false) ?_ fun J2 hJ2 => ?_
      · rintro t h' ⟨rfl, rfl⟩
        refine cond_f rfl (cond_t rfl (cond_t (decide_eq_true (by omega)) ?_))
        exact known6_ok (On.self _) fun h9 o9 => ⟨rfl, o9.mem (by simp)⟩
      · refine str_row (s := ⟨none, 0, 0⟩) (Row.nil h1) (Hp.sub_refl _) (str_row (s := ⟨none, 0, 0⟩) (Row.nil h1) (Hp.sub_refl _) ?_)
        refine cond_f (by rw [strEq_self]; rfl) (hJ2 _ _ ⟨rfl, rfl⟩)
    · refine rput6_ok o2 (g := h1) (by simp) r0 hb (by omega) (fun h => by omega) fun _ s' d' h3 o3 w3 => ?_
      refine join_i (fun t h' => h' = h3 ∧ t = false) ?_ fun J2 hJ2 => ?_
      · rintro t h' ⟨rfl, rfl⟩
        refine cond_f rfl (cond_f rfl ?_)
        have hfl := frameV_len xa
        refine alloc_ob o3 fun k1 h4 o4 => ?_
        have w0 : Own (cI .u8) (ob k1 [] 5) ⟨some ⟨k1, 0, none⟩, 0, 0⟩ [] := own_ob (cd := cI .u8) (xs := []) (rest := []) rfl rfl rfl
        refine append_own (g := d) (s := ⟨some ⟨k1, 0, none⟩, 0, 0⟩) (t := s) o4 rfl w0 (by decide) w2.row (o4.mem (by simp)) (by unfold roomP; simp; omega) fun d5 p5 k5 k6 h5 o5 w5 => ?_
        have w5 : Own (cI .u8) d5 ⟨p5, k5, k6⟩ (frameV xa) := w5
        refine append_own (g := h1) (s := ⟨p5, k5, k6⟩) (t := p1) o5 rfl w5 (by decide) r1 (o5.mem (by simp)) (by unfold roomP; simp; omega) fun d6 p6 k7 k8 h6 o6 w6 => ?_
        refine get6_ok (p0 := ⟨p6, k7, k8⟩) o6 (List.mem_cons_self ..) w6.row ?_ (w6.le_cap (by decide)) (by simp; omega) (fun hn => by rw [frameG_put hsm] at hn; cases hn) fun body k hk s7 d7 h7 o7 w7 => ?_
        · intro b hm
          rcases List.mem_append.1 hm with hm | hm
          · exact frameV_byte hb hsm b hm
          · exact hc b hm
        rw [frameG_put hsm] at hk
        cases hk
        refine cond_t rfl (str_row w7.row (o7.get (i := 0) rfl) (str_row r0 (o7.mem (by simp)) ?_))
        have hsl := w2.1
        refine cond_t (strEq_self _) (cond_t (by simp; omega) ?_)
        exact known6_ok o7 fun h9 o9 => ⟨rfl, o9.mem (by simp)⟩
      · refine str_row w2.row (o3.get (i := 1) rfl) (str_row w3.row (o3.get (i := 0) rfl) ?_)
        refine cond_f (by rw [strEq_self]; rfl) (hJ2 _ _ ⟨rfl, rfl⟩)
  · refine cond_d (fun _ => hJ _ _ ⟨rfl, fun h => by cases h⟩) fun e1 => ?_
    refine hJ _ _ ⟨rfl, fun h => ⟨by omega, ?_⟩⟩
    have h := of_decide_eq_false h
    omega

theorem gets6 {g : Hp} {p0 : Sl} {bs : List Int} (r : Row (cI .u8) g p0 bs) (hb : Bytes bs) (hcap : bs.length ≤ p0.cap) : F18 p0 g (Lawful g) := by
  unfold F18
  have hl := r.1
  refine cond_d (fun _ => ⟨rfl, Hp.sub_refl _⟩) fun h300 => ?_
  refine get6_ok (On.self g) (List.mem_cons_self ..) r hb hcap (by omega) (fun hn h1 o1 => ?_) fun body k hk s d h1 o1 w1 => ?_
  · refine rget6_ok o1 (g := g) (by simp) r hb hcap (by omega) (fun _ h2 o2 => ?_) fun body k hk => by rw [hn] at hk; cases hk
    refine str_row (s := ⟨none, 0, 0⟩) (Row.nil g) (o2.mem (by simp)) (str_row (s := ⟨none, 0, 0⟩) (Row.nil g) (o2.mem (by simp)) ?_)
    refine cond_t (strEq_self _) (cond_t rfl (cond_t rfl ?_))
    exact known6_ok o2 fun h9 o9 => ⟨rfl, o9.mem (by simp)⟩
  · refine rget6_ok o1 (g := g) (by simp) r hb hcap (by omega) (fun hn => by rw [hn] at hk; cases hk) fun body2 k2 hk2 s2 d2 h2 o2 w2 => ?_
    rw [hk] at hk2
    cases hk2
    refine str_row w1.row (o2.get (i := 1) rfl) (str_row w2.row (o2.get (i := 0) rfl) ?_)
    refine cond_t (strEq_self _) (cond_t (by simp) (cond_t rfl ?_))
    exact known6_ok o2 fun h9 o9 => ⟨rfl, o9.mem (by simp)⟩

theorem turned6 {g : Hp} {p0 : Sl} {p1 p2 p3 : Int} {xa : List Int} (r0 : Row (cI .u8) g p0 xa) (hb : Bytes xa) (hp2 : 0 ≤ p2 ∧ p2 < 256) : F19 p0 p1 p2 p3 g (Lawful g) := by
  unfold F19
  have l0 := r0.1
  by_cases h80 : xa.length ≤ 80
  · refine rput6_ok (On.self g) (List.mem_cons_self ..) r0 hb (by omega) (fun h => by omega) fun _ s d h2 o2 w2 => ?_
    have hfl := frameV_len xa
    have hsl := w2.1
    have hfb := frameV_byte hb h80
    refine join_i (fun t h1 => h1 = h2 ∧ (t = false → p2 ≠ 0 ∧ 0 ≤ p3 ∧ p3 < s.len)) ?_ fun J hJ => ?_
    · rintro t h1 ⟨rfl, hf⟩
      refine cond_i (fun _ => ⟨rfl, o2.mem (by simp)⟩) fun e => ?_
      obtain ⟨hne, hp3, hp3'⟩ := hf e
      clear hf
      obtain ⟨k, rfl⟩ : ∃ k : Nat, p3 = (k : Int) := ⟨p3.toNat, by omega⟩
      have hk : k < s.len := by omega
      clear hp3 hp3'
      obtain ⟨j, hj, hjl⟩ : ∃ j : Nat, (andI .i64 p1 65535).tmod (s.len : Int) = (j : Int) ∧ j < s.len := by
        have h0 := (and64_range p1).1
        have h1 := Int.tmod_nonneg (s.len : Int) h0
        have h2 := Int.tmod_lt_of_pos (andI .i64 p1 65535) (b := (s.len : Int)) (by omega)
        exact ⟨((andI .i64 p1 65535).tmod (s.len : Int)).toNat, by omega, by omega⟩
      refine ⟨by dsimp only; omega, ?_⟩
      refine alloc_ob o2 fun k1 h4 o4 => ?_
      have w0 : Own (cI .u8) (ob k1 [] 5) ⟨some ⟨k1, 0, none⟩, 0, 0⟩ [] := own_ob (cd := cI .u8) (xs := []) (rest := []) rfl rfl rfl
      refine append_own (g := d) (s := ⟨some ⟨k1, 0, none⟩, 0, 0⟩) (t := s) o4 rfl w0 (by decide) w2.row (o4.mem (by simp)) (by unfold roomP; simp; omega) fun d5 p5 k5 k6 h5 o5 w5 => ?_
      have w5 : Own (cI .u8) d5 ⟨p5, k5, k6⟩ (frameV xa) := w5
      have hk5 : k5 = (frameV xa).length := w5.1
      dsimp only
      rw [hj]
      obtain ⟨x, hx⟩ : ∃ x, (frameV xa)[j]? = some x := ⟨_, List.getElem?_eq_getElem (by omega)⟩
      refine idx_row (s := ⟨p5, k5, k6⟩) w5.row (Int.natCast_nonneg _) (by dsimp only; omega) fun a ha => ?_
      refine load_row (s := ⟨p5, k5, k6⟩) w5.row (o5.get (i := 0) rfl) rfl ha (i := j) hx (by simp) ?_
      refine idx_row (s := ⟨p5, k5, k6⟩) w5.row (Int.natCast_nonneg _) (by dsimp only; omega) fun a ha => ?_
      refine store_own (s := ⟨p5, k5, k6⟩) o5 rfl w5 ha (i := j) (by omega) (by simp) fun d6 h6 o6 w6 => ?_
      have hsb : Bytes ((frameV xa).set j (xorI .u8 x p2)) := by
        intro b hm
        rcases List.mem_or_eq_of_mem_set hm with hm | rfl
        · exact hfb b hm
        · exact xor8_range x p2
      have hcut := w2.row.cut (k := 0) (m := k) (cap' := s.cap - 0) (by omega) (by omega) (w2.le_cap (by decide)) rfl (z := 1) rfl
      rw [List.drop_zero, Nat.sub_zero] at hcut
      have hcap := w2.le_cap (by decide)
      have rest : ∀ (h7 : Hp) (l : List Hp), On h7 l → d ∈ l → g ∈ l → ∀ y : Bool, (j ≠ 1 → y = false) → cutP s.len s.cap none (some (k : Int)) fun k4 k5 =>
            callP Try.prog 73 [Value.slice (cutA s.a k4 s.cap 1) (k5 - k4) (s.cap - k4)] (tupC [cSl, cI .i64, cB]) h7 fun z3 h7 =>
              condP ((j : Int) == 1) (condP (!z3.snd.snd) (callP Try.prog 72 [] cB h7 fun t2 h8 => Lawful g t2 h8) (Lawful g false h7))
                (condP (!y) (condP (!z3.snd.snd) (callP Try.prog 72 [] cB h7 fun t3 h9 => Lawful g t3 h9) (Lawful g false h7)) (Lawful g false h7)) := by
        intro h7 l o7 hd hg y hy
        refine ⟨by omega, by omega, ?_⟩
        rw [Int.toNat_natCast]
        refine get6_ok (p0 := ⟨cutA s.a 0 s.cap 1, k - 0, s.cap - 0⟩) o7 hd (by simpa using hcut) (hfb.take k) (by simp; omega) (by simp; omega) (fun _ h8 o8 => ?_) fun body m hm => by rw [frameG_cut hb h80 (by omega)] at hm; cases hm
        refine cond_i (fun _ => cond_t rfl ?_) fun hj1 => cond_t ?_ (cond_t rfl ?_)
        · exact known6_ok o8 fun h9 o9 => ⟨rfl, o9.mem hg⟩
        · rw [hy (by rintro rfl; simp at hj1)]; rfl
        · exact known6_ok o8 fun h9 o9 => ⟨rfl, o9.mem hg⟩
      refine get6_ok (p0 := ⟨p5, k5, k6⟩) o6 (List.mem_cons_self ..) w6.row hsb (w6.le_cap (by decide)) (by simp; omega) (fun _ h7 o7 => ?_) fun body m hm s7 d7 h7 o7 w7 => ?_
      · exact rest h7 _ o7 (by simp) (by simp) false fun _ => rfl
      · refine rest h7 _ o7 (by simp) (by simp) true fun hj1 => ?_
        rw [frameG_turned hb h80 hx hp2 hne hj1] at hm
        cases hm
    · refine cond_f rfl (cond_d (fun _ => hJ _ _ ⟨rfl, fun h => by cases h⟩) fun e1 => cond_d (fun _ => hJ _ _ ⟨rfl, fun h => by cases h⟩) fun e2 => ?_)
      refine hJ _ _ ⟨rfl, fun h => ⟨by simpa using e1, by omega, ?_⟩⟩
      have h := of_decide_eq_false h
      dsimp only at h
      omega
  · refine c71 ?_
    unfold F71
    refine cond_d (fun _ => ?_) fun h => by omega
    refine join_i (fun t h1 => h1 = g ∧ t = true) ?_ fun J hJ => cond_t rfl (hJ _ _ ⟨rfl, rfl⟩)
    rintro t h1 ⟨rfl, rfl⟩
    exact cond_t rfl ⟨rfl, Hp.sub_refl _⟩
theorem zeros_row : ∀ n : Nat, zerosL n [Value.int .u8 0] = cellsL (cI .u8) (List.replicate n 0)
  | 0 => rfl
  | n + 1 => by
    rw [List.replicate_succ]
    show Value.int .u8 0 :: zerosL n [Value.int .u8 0] = Value.int .u8 0 :: cellsL (cI .u8) (List.replicate n 0)
    rw [zeros_row n]
theorem lengths6 {g : Hp} {p0 : Int} : F20 p0 g (Lawful g) := by
  unfold F20
  refine join_i (fun t h1 => h1 = g ∧ (t = false → 0 ≤ p0 ∧ p0 ≤ 300)) ?_ fun J hJ => ?_
  · rintro t h1 ⟨rfl, hf⟩
    refine cond_i (fun _ => ⟨rfl, Hp.sub_refl _⟩) fun e => ?_
    obtain ⟨hp0, hp3⟩ := hf e
    clear hf
    obtain ⟨n, rfl⟩ : ∃ n : Nat, p0 = (n : Int) := ⟨p0.toNat, by omega⟩
    have hn : n ≤ 300 := by omega
    refine ⟨by omega, by omega, by omega, by omega, ?_⟩
    rw [Int.toNat_natCast]
    refine alloc_ob (On.self h1) fun k1 h2 o2 => ?_
    have rz : Row (cI .u8) (ob k1 (zerosL n [Value.int .u8 0]) 5) ⟨some ⟨k1, 0, none⟩, n, n⟩ (List.replicate n 0) := by
      exact row_ob (zeros_row n) (by simp)
    have hby : Bytes (List.replicate n 0) := by
      intro b hm
      have := List.eq_of_mem_replicate hm
      omega
    refine put6_ok (p0 := ⟨some ⟨k1, 0, none⟩, n, n⟩) o2 (List.mem_cons_self ..) rz hby (by simp; omega) (fun hbig => ?_) fun hsm s3 d3 h3 o3 w3 => ?_
    · rw [List.length_replicate] at hbig
      refine get6_ok (p0 := ⟨none, 0, 0⟩) (g := Hp.emp) o2.emp (List.mem_cons_self ..) (Row.nil _) (bs := []) (by intro b hb; cases hb) (by simp) (by simp) (fun _ h4 o4 => ?_) fun body k hk => by rw [frameG_few (by simp)] at hk; cases hk
      refine cond_t (decide_eq_true (by omega)) (cond_t rfl (cond_t rfl (cond_t rfl ?_)))
      exact known6_ok o4 fun h9 o9 => ⟨rfl, o9.mem (by simp)⟩
    · rw [List.length_replicate] at hsm
      have hl80 : (List.replicate n (0 : Int)).length ≤ 80 := by simpa using hsm
      have hfl := frameV_len (List.replicate n (0 : Int))
      rw [List.length_replicate] at hfl
      have hsl := w3.1
      refine get6_ok o3 (List.mem_cons_self ..) w3.row (frameV_byte hby hl80) (w3.le_cap (by decide)) (by omega) (fun hn => by rw [frameG_self hl80] at hn; cases hn) fun body k hk s4 d4 h4 o4 w4 => ?_
      rw [frameG_self hl80] at hk
      cases hk
      have hs4 := w4.1
      rw [List.length_replicate] at hs4 ⊢
      have e6 : IntKind.i64.wrap ((n : Int) + 6) = ((n + 6 : Nat) : Int) := by rw [w64 (by omega) (by omega)]; rfl
      refine cond_f (decide_eq_false (by omega)) (cond_t rfl (cond_t ?_ (cond_t rfl (cond_t ?_ (cond_t ?_ ?_)))))
      · rw [e6]; simp; omega
      · simp; omega
      · rw [e6]; simp
      exact known6_ok o4 fun h9 o9 => ⟨rfl, o9.mem (by simp)⟩
  · refine cond_d (fun _ => hJ _ _ ⟨rfl, fun h => by cases h⟩) fun e1 => ?_
    refine hJ _ _ ⟨rfl, fun h => ?_⟩
    have h := of_decide_eq_false h
    omega
theorem framePuts_law (W : World) (p0 p1 : Sl) (o0 : Opn Try.prog W 25 [.slice p0.a p0.len p0.cap]) (o1 : Opn Try.prog W 25 [.slice p1.a p1.len p1.cap]) : F17 p0 p1 (hpOf W) (Lawful (hpOf W)) := by
  obtain ⟨xa, h0, h1, _, _⟩ := bytes_of o0
  obtain ⟨ys, h2, h3, _, _⟩ := bytes_of o1
  exact puts6 h0 h2 h1 h3
theorem frameGets_law (W : World) (p0 : Sl) (o0 : Opn Try.prog W 25 [.slice p0.a p0.len p0.cap]) : F18 p0 (hpOf W) (Lawful (hpOf W)) := by
  obtain ⟨xa, h0, h1, _, h2⟩ := bytes_of o0
  exact gets6 h0 h1 h2
theorem u8_of {W : World} {n : Int} (h : Opn Try.prog W 5 [.int .u8 n]) : 0 ≤ n ∧ n < 256 := by
  obtain ⟨x, hx, ok⟩ := open_flat (d := 1) (ls := [(.i .u8, 5)]) h (by kernel_rfl)
  have e : n = x := by
    have : [Value.int .u8 n] = [Value.int .u8 x] := hx
    simpa using this
  have : (Lit.int .u8 x).wf = true := ok
  simp [Lit.wf, IntKind.min, IntKind.max, IntKind.signed, IntKind.bits] at this
  omega
theorem frameTurned_law (W : World) (p0 : Sl) (p1 p2 p3 : Int) (o0 : Opn Try.prog W 25 [.slice p0.a p0.len p0.cap]) (_o1 : Opn Try.prog W 3 [.int .i64 p1]) (o2 : Opn Try.prog W 5 [.int .u8 p2]) (_o3 : Opn Try.prog W 3 [.int .i64 p3]) : F19 p0 p1 p2 p3 (hpOf W) (Lawful (hpOf W)) := by
  obtain ⟨xa, h0, h1, _, _⟩ := bytes_of o0
  exact turned6 h0 h1 (u8_of o2)
theorem frameLengths_law (W : World) (p0 : Int) (_o0 : Opn Try.prog W 3 [.int .i64 p0]) : F20 p0 (hpOf W) (Lawful (hpOf W)) := lengths6
end Go.Proofs.Ytmkgcdgpokidjaa
