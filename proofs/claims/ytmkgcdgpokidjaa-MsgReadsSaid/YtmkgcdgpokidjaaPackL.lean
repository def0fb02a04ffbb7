/- Chapter 3: the laws. -/
import Derived.Test.YtmkgcdgpokidjaaPackH
set_option linter.unusedVariables false
namespace Go.Proofs.Ytmkgcdgpokidjaa
open Go.Eng

theorem getN_more : ∀ (l : List Int) (k : Nat), (∀ n ∈ l, I64 n) → getN (l.length + (k + 1)) (putV l) = none
  | [], k, _ => by rw [List.length_nil, Nat.zero_add]; exact getN_succ_none rfl
  | n :: l, k, h => by
    have h1 := firstV_one (h n (by simp)) (putV l)
    rw [← putV_cons] at h1
    rw [List.length_cons, show l.length + 1 + (k + 1) = (l.length + (k + 1)) + 1 by omega, getN_succ_some h1, putV_cons, List.drop_append_of_le_length (Nat.le_refl _), List.drop_length, List.nil_append, getN_more l k fun x hx => h x (by simp [hx])]
    rfl
theorem getV_put {l : List Int} (h : ∀ n ∈ l, I64 n) {n : Int} (hn : n = l.length) : getV (putV l) n = some l := by
  subst hn; unfold getV; rw [if_neg (by omega)]; exact getN_put l [] h
theorem getV_more {l : List Int} (h : ∀ n ∈ l, I64 n) {n : Int} (hn : n = (l.length + 1 : Nat)) : getV (putV l) n = none := by
  subst hn; unfold getV; rw [if_neg (by omega)]; exact getN_more l 0 h
theorem firstV_app {xs ys : List Int} {v : Int} {k : Nat} (hb : Bytes xs) (h : firstV xs = some (v, k)) : firstV (xs ++ ys) = some (v, k) := by
  obtain ⟨a1, a2, a3, a4, _⟩ := firstV_inv hb h
  have : xs ++ ys = one3 v ++ (xs.drop k ++ ys) := by rw [← a2, ← List.append_assoc, List.take_append_drop]
  rw [this, firstV_one a1, a3]
theorem firstV_short {v : Int} (h : I64 v) {k : Nat} (hk : k < (one3 v).length) : firstV ((one3 v).take k) = none := by
  cases hf : firstV ((one3 v).take k) with
  | none => rfl
  | some x =>
    obtain ⟨w, j⟩ := x
    have hb : Bytes ((one3 v).take k) := Bytes.take (fun b hb => grp_byte _ b hb) k
    have h1 := firstV_app (ys := (one3 v).drop k) hb hf
    rw [List.take_append_drop] at h1
    have h2 := firstV_one h []
    rw [List.append_nil, h1] at h2
    cases h2
    obtain ⟨_, _, _, a4, _⟩ := firstV_inv hb hf
    rw [List.length_take] at a4
    omega
theorem grp_split : ∀ z : Nat, ∃ (ini : List Int) (c : Int), grp z = ini ++ [c] ∧ (∀ b ∈ ini, 128 ≤ b ∧ b < 256) ∧ 0 ≤ c ∧ c < 128 := by
  intro z
  induction z using Nat.strongRecOn with
  | _ z ih =>
    by_cases hz : z < 128
    · exact ⟨[], z, by rw [grp_lt hz]; rfl, (fun b hb => by cases hb), by omega, by omega⟩
    · obtain ⟨ini, c, h1, h2, h3, h4⟩ := ih (z / 128) (by omega)
      refine ⟨((z % 128 + 128 : Nat) : Int) :: ini, c, by rw [grp_ge (by omega), h1]; rfl, fun b hb => ?_, h3, h4⟩
      rcases List.mem_cons.1 hb with rfl | hb
      · omega
      · exact h2 b hb
theorem firstG_nought : ∀ (xs : List Int) (i z : Nat), (∀ b ∈ xs, 128 ≤ b) → (0 < i ∨ xs ≠ []) → firstG i z (xs ++ [0]) = none
  | [], i, z, _, h => firstG_bad (by omega) (.inl ⟨rfl, by simpa using h⟩)
  | x :: xs, i, z, hx, _ => by
    by_cases h10 : 10 ≤ i
    · show firstG i z (x :: (xs ++ [0])) = none
      unfold firstG
      rw [if_pos h10]
    · show firstG i z (x :: (xs ++ [0])) = none
      rw [firstG_more (by omega) (hx x (by simp))]
      exact firstG_nought xs _ _ (fun b hb => hx b (by simp [hb])) (.inl (by omega))

theorem puts3 {g : Hp} {p0 : Sl} {ns : List Int} (r : Row (cI .i64) g p0 ns) (hn : ∀ n ∈ ns, I64 n) : F10 p0 g (Lawful g) := by
  unfold F10
  have hl := r.1
  refine cond_d (fun _ => ⟨rfl, Hp.sub_refl _⟩) fun h60 => ?_
  have hlen := putV_len ns hn
  refine put3_ok (On.self g) (List.mem_cons_self ..) r hn (by omega) fun s1 d1 h1 o1 w1 => ?_
  have hcap := w1.le_cap (by decide)
  refine get_ok o1 (List.mem_cons_self ..) w1.row (putV_byte ns) hcap (by omega) (fun h => by rw [getV_put hn (by omega)] at h; cases h) fun ms hms s2 d2 h2 o2 w2 => ?_
  rw [getV_put hn (by omega)] at hms
  cases hms
  have e : IntKind.i64.wrap ((p0.len : Int) + 1) = ((ns.length + 1 : Nat) : Int) := by rw [hl]; exact w64n (by omega)
  refine get_ok o2 (g := d1) (by simp) w1.row (putV_byte ns) hcap (by omega) (fun _ h3 o3 => ?_) fun ms hms => by rw [e, getV_more hn rfl] at hms; cases hms
  refine str_row w1.row (o3.get (i := 1) rfl) ?_
  refine rput3_ok o3 (g := g) (by simp) r hn (by omega) fun s4 d4 h4 o4 w4 => ?_
  refine ⟨⟨str_row w1.row (o4.get (i := 2) rfl) rfl, trivial⟩, ?_⟩
  refine str_row w4.row (o4.get (i := 0) rfl) ?_
  refine cond_t (strEq_self _) (cond_t rfl ?_)
  refine same3_ok (o4.get (i := 1) rfl) (o4.get (i := 3) rfl) w2.row r (by omega) ?_
  refine cond_t (by simp) (cond_t rfl ?_)
  exact known3_ok o4 fun h5 o5 => ⟨rfl, o5.mem (by simp)⟩

theorem gets3 {g : Hp} {p0 : Sl} {p1 : Int} {bs : List Int} (r : Row (cI .u8) g p0 bs) (hb : Bytes bs) (hcap : bs.length ≤ p0.cap) : F11 p0 p1 g (Lawful g) := by
  unfold F11
  have hl := r.1
  refine join_i (fun t h1 => h1 = g ∧ (t = false → bs.length ≤ 200)) ?_ fun J hJ => ?_
  · rintro t h1 ⟨rfl, hf⟩
    refine cond_i (fun _ => ⟨rfl, Hp.sub_refl _⟩) fun e => ?_
    have h200 := hf e
    refine alloc_ob (On.self h1) fun k1 h2 o2 => ?_
    have w0 : Own (cI .u8) (ob k1 [] 5) ⟨some ⟨k1, 0, none⟩, 0, 0⟩ [] := own_ob (cd := cI .u8) (xs := []) (rest := []) rfl rfl rfl
    refine append_own (g := h1) (s := ⟨some ⟨k1, 0, none⟩, 0, 0⟩) (t := p0) o2 rfl w0 (by decide) r (o2.get (i := 1) rfl) (by unfold roomP; simp; omega) fun d3 p3 k2 k3 h3 o3 w3 => ?_
    have w3' : Own (cI .u8) d3 ⟨p3, k2, k3⟩ bs := w3
    have tail : ∀ (z1 z2 : Sl × Int) (xs : List Int) (h' : Hp) (la lb : List Hp), On h' (la ++ [h1]) → z1.2 = z2.2 → Row (cI .i64) h' z1.1 xs → Row (cI .i64) h' z2.1 xs → xs.length ≤ 1000000 →
        callP Try.prog 68 [Value.slice p0.a p0.len p0.cap] (tupC [cI .i64, cI .i64, cB]) h' fun z3 h6 =>
          callP Try.prog 69 [Value.slice p0.a p0.len p0.cap] (tupC [cI .i64, cI .i64, cB]) h6 fun z4 h7 =>
            callP Try.prog 65 [Value.slice z1.1.a z1.1.len z1.1.cap, Value.slice z2.1.a z2.1.len z2.1.cap] cB h7 fun t2 h8 =>
              condP t2 (condP (z1.2 == z2.2) (condP (z3.1 == z4.1) (condP (z3.2.1 == z4.2.1) (condP (z3.2.2 == z4.2.2) (callP Try.prog 66 [] cB h8 fun t3 h9 => Lawful h1 t3 h9) (Lawful h1 false h8)) (Lawful h1 false h8)) (Lawful h1 false h8)) (Lawful h1 false h8)) (Lawful h1 false h8) := by
      intro z1 z2 xs h' la lb o' hz r1 r2 hx
      refine first_ok (o'.mem (by simp)) r hb hcap (by omega) ?_
      have oh : On h' (h' :: []) := On.self h'
      refine rfirst_ok (l := [h']) oh (g := h') (List.mem_cons_self ..) (r.sub (o'.mem (by simp))) hb hcap (by omega) fun h7 o7 => ?_
      have sub7 : h'.sub h7 := o7.get (i := 0) rfl
      refine same3_ok sub7 sub7 r1 r2 hx ?_
      refine cond_t (by simp) (cond_t (by rw [hz]; simp) (cond_t (by simp) (cond_t (by simp) (cond_t (by simp) ?_))))
      exact known3_ok o7 fun h8 o8 => ⟨rfl, Hp.sub_trans (o'.mem (by simp)) (o8.get (i := 0) rfl)⟩
    have hcap3 : bs.length ≤ k3 := w3'.le_cap (by decide)
    cases hv : getV bs p1 with
    | none =>
      refine get_ok o3 (List.mem_cons_self ..) w3'.row hb hcap3 (by omega) (fun _ h4 o4 => ?_) fun ms hms => by rw [hv] at hms; cases hms
      refine rget_ok o4 (g := h1) (by simp) r hb hcap (by omega) (fun _ h5 o5 => ?_) fun ms hms => by rw [hv] at hms; cases hms
      exact tail _ _ [] h5 [d3] [] o5 rfl (Row.nil _) (Row.nil _) (by simp)
    | some ns =>
      have hnl : ns.length ≤ 1000000 := by
        unfold getV at hv
        split at hv
        · cases hv
        · obtain ⟨_, h2, h3⟩ := getN_inv _ _ _ hb hv
          have : ∀ l : List Int, l.length ≤ (putV l).length := by
            intro l
            induction l with
            | nil => simp
            | cons x l ih =>
              rw [putV_cons, List.length_append, List.length_cons]
              have : (one3 x).length ≠ 0 := fun h0 => grp_ne _ (List.length_eq_zero_iff.1 h0)
              omega
          have := this ns
          rw [← h2] at this
          omega
      refine get_ok o3 (List.mem_cons_self ..) w3'.row hb hcap3 (by omega) (fun h => by rw [hv] at h; cases h) fun ms hms s4 d4 h4 o4 w4 => ?_
      rw [hv] at hms
      cases hms
      refine rget_ok o4 (g := h1) (by simp) r hb hcap (by omega) (fun h => by rw [hv] at h; cases h) fun ms hms s5 d5 h5 o5 w5 => ?_
      rw [hv] at hms
      cases hms
      exact tail _ _ ns h5 [d5, d4, d3] [] o5 rfl (w4.row.sub (o5.get (i := 1) rfl)) (w5.row.sub (o5.get (i := 0) rfl)) hnl
  · refine cond_d (fun _ => hJ _ _ ⟨rfl, fun h => by cases h⟩) fun e1 => ?_
    exact hJ _ _ ⟨rfl, fun _ => by omega⟩

theorem cut3 {g : Hp} {p0 : Int} (hv : I64 p0) : F12 p0 g (Lawful g) := by
  unfold F12
  refine alloc_ob (On.self g) fun k1 h1 o1 => ?_
  have rv : Row (cI .i64) (ob k1 [Value.int .i64 p0] 2) ⟨some ⟨k1, 0, none⟩, 1, 1⟩ [p0] := row_ob rfl rfl
  have hall : ∀ n ∈ [p0], I64 n := by intro n hn; rw [List.mem_singleton] at hn; subst hn; exact hv
  refine rput3_ok (p0 := ⟨some ⟨k1, 0, none⟩, 1, 1⟩) o1 (List.mem_cons_self ..) rv hall (by simp) fun s1 d1 h2 o2 w2 => ?_
  have hput : putV [p0] = one3 p0 := by simp [putV]
  rw [hput] at w2
  have hl10 := one3_len hv
  have hls := w2.1
  have hcap := w2.le_cap (by decide)
  obtain ⟨ini, c, hsp, hini, hc0, hc1⟩ := grp_split (zigV p0).toNat
  have hsp : one3 p0 = ini ++ [c] := hsp
  have hlen : (one3 p0).length = ini.length + 1 := by rw [hsp]; simp
  have hbyte : Bytes (one3 p0) := fun b hb => grp_byte _ b hb
  have e1 : IntKind.i64.wrap ((s1.len : Int) - 1) = ((ini.length : Nat) : Int) := by rw [w64 (by omega) (by omega)]; omega
  rw [e1]
  refine ⟨by omega, by omega, ?_⟩
  have r2 := w2.row.cut (k := 0) (m := ini.length) (cap' := s1.cap - 0) (by omega) (by omega) hcap rfl (z := 1) rfl
  rw [List.drop_zero, Nat.sub_zero] at r2
  refine first_ok (p0 := ⟨cutA s1.a 0 s1.cap 1, ((ini.length : Nat) : Int).toNat - 0, s1.cap - 0⟩) (o2.get (i := 0) rfl) (by simpa using r2) (hbyte.take ini.length) (by simp; omega) (by simp; omega) ?_
  rw [firstR_none (firstV_short hv (by omega))]
  refine alloc_ob o2 fun k4 h4 o4 => ?_
  have w0 : Own (cI .u8) (ob k4 [] 5) ⟨some ⟨k4, 0, none⟩, 0, 0⟩ [] := own_ob (cd := cI .u8) (xs := []) (rest := []) rfl rfl rfl
  refine append_own (g := d1) (s := ⟨some ⟨k4, 0, none⟩, 0, 0⟩) (t := s1) o4 rfl w0 (by decide) w2.row (o4.get (i := 1) rfl) (by unfold roomP; simp; omega) fun d5 p5 k5 k6 h5 o5 w5 => ?_
  have w5 : Own (cI .u8) d5 ⟨p5, k5, k6⟩ (one3 p0) := w5
  have hk5 : k5 = ini.length + 1 := by have := w5.1; dsimp only at this; omega
  have e2 : IntKind.i64.wrap ((k5 : Int) - 1) = ((ini.length : Nat) : Int) := by rw [w64 (by omega) (by omega)]; omega
  rw [e2]
  have hgc : (one3 p0)[ini.length]? = some c := by rw [hsp, List.getElem?_append_right (Nat.le_refl _)]; simp
  refine idx_row (s := ⟨p5, k5, k6⟩) w5.row (Int.natCast_nonneg _) (by omega) fun a ha => ?_
  refine load_row (s := ⟨p5, k5, k6⟩) w5.row (o5.get (i := 0) rfl) rfl ha (i := ini.length) hgc (by simp) ?_
  refine idx_row (s := ⟨p5, k5, k6⟩) w5.row (Int.natCast_nonneg _) (by omega) fun a ha => ?_
  refine store_own (s := ⟨p5, k5, k6⟩) o5 rfl w5 ha (i := ini.length) (by omega) (by simp) fun d6 h6 o6 w6 => ?_
  have eor : orI .u8 c 128 = c + 128 := by
    have := or8 c.toNat
    rw [wrap8, show (c.toNat : Int) % 256 = c by omega] at this
    rw [this]; omega
  have hset : (one3 p0).set ini.length (orI .u8 c 128) = ini ++ [c + 128] := by
    rw [eor, hsp, List.set_append_right _ _ (Nat.le_refl _)]; simp
  rw [hset] at w6
  refine alloc_ob o6 fun k7 h7 o7 => ?_
  have r7 : Row (cI .u8) (ob k7 [Value.int .u8 0] 5) ⟨some ⟨k7, 0, none⟩, 1, 1⟩ [0] := row_ob rfl rfl
  refine append_own (s := ⟨p5, k5, k6⟩) (t := ⟨some ⟨k7, 0, none⟩, 1, 1⟩) o7.swap rfl w6 (by decide) r7 (o7.get (i := 0) rfl) (by unfold roomP; simp; omega) fun d8 p8 k8 k9 h8 o8 w8 => ?_
  have hb8 : Bytes (ini ++ [c + 128] ++ [0]) := by
    intro b hb
    simp only [List.mem_append, List.mem_singleton] at hb
    rcases hb with (hb | rfl) | rfl
    · have := hini b hb; omega
    · omega
    · omega
  refine first_ok (p0 := ⟨p8, k8, k9⟩) (o8.get (i := 0) rfl) w8.row hb8 (w8.le_cap (by decide)) (by simp; omega) ?_
  have hnone : firstV (ini ++ [c + 128] ++ [0]) = none := by
    unfold firstV
    rw [firstG_nought (ini ++ [c + 128]) 0 0 ?_ (.inr (by simp))]
    · rfl
    · intro b hb
      simp only [List.mem_append, List.mem_singleton] at hb
      rcases hb with hb | rfl
      · exact (hini b hb).1
      · omega
  rw [firstR_none hnone]
  refine cond_t rfl (cond_t rfl ?_)
  exact known3_ok o8 fun h9 o9 => ⟨rfl, o9.mem (by simp)⟩

theorem join3 {g : Hp} {p0 p1 : Sl} {xa bs : List Int} (r0 : Row (cI .i64) g p0 xa) (r1 : Row (cI .i64) g p1 bs) (ha : ∀ n ∈ xa, I64 n) (hb : ∀ n ∈ bs, I64 n) : F13 p0 p1 g (Lawful g) := by
  unfold F13
  have l0 := r0.1
  have l1 := r1.1
  refine join_i (fun t h1 => h1 = g ∧ (t = false → xa.length ≤ 30 ∧ bs.length ≤ 30)) ?_ fun J hJ => ?_
  · rintro t h1 ⟨rfl, hf⟩
    refine cond_i (fun _ => ⟨rfl, Hp.sub_refl _⟩) fun e => ?_
    obtain ⟨h30, h31⟩ := hf e
    have la := putV_len xa ha
    have lb := putV_len bs hb
    refine put3_ok (On.self h1) (List.mem_cons_self ..) r0 ha (by omega) fun s1 d1 h2 o2 w2 => ?_
    refine put3_ok o2 (g := h1) (by simp) r1 hb (by omega) fun s2 d2 h3 o3 w3 => ?_
    refine append_own (s := s1) (t := s2) o3.swap rfl w2 (by decide) w3.row (o3.get (i := 0) rfl) (by unfold roomP; omega) fun d4 p4 k1 k2 h4 o4 w4 => ?_
    have hall : ∀ n ∈ xa ++ bs, I64 n := by
      intro n hn
      rcases List.mem_append.1 hn with hn | hn
      · exact ha n hn
      · exact hb n hn
    rw [← putV_append] at w4
    have e1 : IntKind.i64.wrap ((p0.len : Int) + (p1.len : Int)) = ((xa ++ bs).length : Int) := by rw [w64 (by omega) (by omega)]; simp; omega
    rw [e1]
    have hlab : (putV (xa ++ bs)).length ≤ 1000000 := by rw [putV_append, List.length_append]; omega
    refine get_ok (p0 := ⟨p4, k1, k2⟩) o4 (List.mem_cons_self ..) w4.row (putV_byte _) (w4.le_cap (by decide)) hlab (fun h => by rw [getV_put hall rfl] at h; cases h) fun ms hms s5 d5 h5 o5 w5 => ?_
    rw [getV_put hall rfl] at hms
    cases hms
    refine cond_t rfl ?_
    refine alloc_ob o5 fun k3 h6 o6 => ?_
    have w0 : Own (cI .i64) (ob k3 [] 2) ⟨some ⟨k3, 0, none⟩, 0, 0⟩ [] := own_ob (cd := cI .i64) (xs := []) (rest := []) rfl rfl rfl
    refine append_own (g := h1) (s := ⟨some ⟨k3, 0, none⟩, 0, 0⟩) (t := p0) o6 rfl w0 (by decide) r0 (o6.mem (by simp)) (by unfold roomP; simp; omega) fun d7 p7 k4 k5 h7 o7 w7 => ?_
    refine append_own (g := h1) (s := ⟨p7, k4, k5⟩) (t := p1) o7 rfl w7 (by decide) r1 (o7.mem (by simp)) (by unfold roomP; simp; omega) fun d8 p8 k6 k7 h8 o8 w8 => ?_
    have w8 : Own (cI .i64) d8 ⟨p8, k6, k7⟩ (xa ++ bs) := w8
    refine same3_ok (p1 := ⟨p8, k6, k7⟩) (o8.get (i := 1) rfl) (o8.get (i := 0) rfl) w5.row w8.row (by simp; omega) ?_
    refine cond_t (by simp) ?_
    refine str_row (s := ⟨p4, k1, k2⟩) w4.row (o8.get (i := 2) rfl) ?_
    refine put3_ok o8 (g := d5) (by simp) w5.row hall (by simp; omega) fun s9 d9 h9 o9 w9 => ?_
    refine ⟨⟨str_row (s := ⟨p4, k1, k2⟩) w4.row (o9.get (i := 3) rfl) rfl, trivial⟩, ?_⟩
    refine str_row w9.row (o9.get (i := 0) rfl) ?_
    refine cond_t (strEq_self _) ?_
    exact known3_ok o9 fun h9 o9 => ⟨rfl, o9.mem (by simp)⟩
  · refine cond_d (fun _ => hJ _ _ ⟨rfl, fun h => by cases h⟩) fun e1 => ?_
    refine hJ _ _ ⟨rfl, fun h => ⟨by omega, ?_⟩⟩
    have h := of_decide_eq_false h
    omega

theorem own3 {g : Hp} {p0 : Sl} {ns : List Int} (r : Row (cI .i64) g p0 ns) (hn : ∀ n ∈ ns, I64 n) : F16 p0 g (Lawful g) := by
  unfold F16
  have hl := r.1
  refine cond_d (fun _ => ⟨rfl, Hp.sub_refl _⟩) fun h40 => ?_
  have hlen := putV_len ns hn
  refine alloc_ob (On.self g) fun k1 h1 o1 => ?_
  have w0 : Own (cI .i64) (ob k1 [] 2) ⟨some ⟨k1, 0, none⟩, 0, 0⟩ [] := own_ob (cd := cI .i64) (xs := []) (rest := []) rfl rfl rfl
  refine append_own (g := g) (s := ⟨some ⟨k1, 0, none⟩, 0, 0⟩) (t := p0) o1 rfl w0 (by decide) r (o1.mem (by simp)) (by unfold roomP; simp; omega) fun d2 p2 k2 k3 h2 o2 w2 => ?_
  have w2 : Own (cI .i64) d2 ⟨p2, k2, k3⟩ ns := w2
  refine put3_ok (p0 := ⟨p2, k2, k3⟩) o2 (List.mem_cons_self ..) w2.row hn (by omega) fun s3 d3 h3 o3 w3 => ?_
  refine alloc_ob o3 fun k4 h4 o4 => ?_
  have w4 : Own (cI .u8) (ob k4 [] 5) ⟨some ⟨k4, 0, none⟩, 0, 0⟩ [] := own_ob (cd := cI .u8) (xs := []) (rest := []) rfl rfl rfl
  refine append_own (g := d3) (s := ⟨some ⟨k4, 0, none⟩, 0, 0⟩) (t := s3) o4 rfl w4 (by decide) w3.row (o4.get (i := 1) rfl) (by unfold roomP; simp; omega) fun d5 p5 k5 k6 h5 o5 w5 => ?_
  have w5 : Own (cI .u8) d5 ⟨p5, k5, k6⟩ (putV ns) := w5
  -- d5, d3, d2, g
  have hcap := w3.le_cap (by decide)
  have hgv := getV_put hn (n := (p0.len : Int)) (by omega)
  refine get_ok o5 (g := d3) (by simp) w3.row (putV_byte ns) hcap (by omega) (fun h => by rw [hgv] at h; cases h) fun ms hms s6 d6 h6 o6 w6 => ?_
  rw [hgv] at hms
  cases hms
  refine loop_i (fun z h' => ∃ (i : Nat) (d : Hp) (xs : List Int), z = i ∧ i ≤ s6.len ∧ xs.length = s6.len ∧ On h' [d, d5, d3, d2, g] ∧ Own (cI .i64) d s6 xs) (fun z => s6.len - z.toNat) ⟨0, d6, ns, rfl, Nat.zero_le _, w6.1.symm, o6, w6⟩ ?_
  rintro J1 z h7 again ⟨i, d7, xs, rfl, hle, hxs, o7, w7⟩
  refine cond_d (fun hlt => ?_) fun _ => ?_
  · dsimp only at hlt
    have hlt : i < xs.length := by omega
    have hi : xs[i]? = some xs[i] := List.getElem?_eq_getElem hlt
    have hsl := w6.1
    refine idx_row w7.row (by omega) (by omega) fun a ha => load_row w7.row (o7.get (i := 0) rfl) rfl ha (i := i) hi (by simp) ?_
    refine idx_row w7.row (by omega) (by omega) fun a ha => ?_
    refine store_own o7 rfl w7 ha (i := i) hlt (by simp) fun d8 h8 o8 w8 => ?_
    exact again _ _ ⟨i + 1, d8, _, w64n (by omega), by omega, by rw [List.length_set]; exact hxs, o8, w8⟩ (by rw [w64n (by omega)]; omega)
  · refine get_ok o7 (g := d3) (by simp) w3.row (putV_byte ns) hcap (by omega) (fun h => by rw [hgv] at h; cases h) fun ms hms s8 d8 h8 o8 w8 => ?_
    rw [hgv] at hms
    cases hms
    refine same3_ok (p0 := ⟨p2, k2, k3⟩) (o8.get (i := 4) rfl) (o8.get (i := 5) rfl) w2.row r (by omega) ?_
    refine cond_t (by simp) ?_
    refine str_row w3.row (o8.get (i := 3) rfl) (str_row (s := ⟨p5, k5, k6⟩) w5.row (o8.get (i := 2) rfl) ?_)
    refine cond_t (strEq_self _) (cond_t rfl (cond_t rfl ?_))
    refine same3_ok (o8.get (i := 0) rfl) (o8.get (i := 5) rfl) w8.row r (by omega) ?_
    refine cond_t (by simp) ?_
    exact known3_ok o8 fun h9 o9 => ⟨rfl, o9.mem (by simp)⟩

theorem packPuts_law (W : World) (p0 : Sl) (o0 : Opn Try.prog W 37 [.slice p0.a p0.len p0.cap]) : F10 p0 (hpOf W) (Lawful (hpOf W)) := by
  obtain ⟨ns, h0, h1⟩ := i64s_of o0
  exact puts3 h0 h1
theorem packGets_law (W : World) (p0 : Sl) (p1 : Int) (o0 : Opn Try.prog W 25 [.slice p0.a p0.len p0.cap]) (_o1 : Opn Try.prog W 3 [.int .i64 p1]) : F11 p0 p1 (hpOf W) (Lawful (hpOf W)) := by
  obtain ⟨bs, h0, h1, _, h2⟩ := bytes_of o0
  exact gets3 h0 h1 h2
theorem i64_of {W : World} {n : Int} (h : Opn Try.prog W 2 [.int .i64 n]) : I64 n := by
  obtain ⟨x, hx, ok⟩ := open_flat (d := 1) (ls := [(.i .i64, 2)]) h (by kernel_rfl)
  have e : n = x := by
    have : [Value.int .i64 n] = [Value.int .i64 x] := hx
    simpa using this
  rw [e]
  exact wfI64 ok
theorem packCut_law (W : World) (p0 : Int) (o0 : Opn Try.prog W 2 [.int .i64 p0]) : F12 p0 (hpOf W) (Lawful (hpOf W)) := cut3 (i64_of o0)
theorem packJoin_law (W : World) (p0 p1 : Sl) (o0 : Opn Try.prog W 37 [.slice p0.a p0.len p0.cap]) (o1 : Opn Try.prog W 37 [.slice p1.a p1.len p1.cap]) : F13 p0 p1 (hpOf W) (Lawful (hpOf W)) := by
  obtain ⟨xa, h0, h1⟩ := i64s_of o0
  obtain ⟨bs, h2, h3⟩ := i64s_of o1
  exact join3 h0 h2 h1 h3
theorem packOwn_law (W : World) (p0 : Sl) (o0 : Opn Try.prog W 37 [.slice p0.a p0.len p0.cap]) : F16 p0 (hpOf W) (Lawful (hpOf W)) := by
  obtain ⟨ns, h0, h1⟩ := i64s_of o0
  exact own3 h0 h1
end Go.Proofs.Ytmkgcdgpokidjaa
