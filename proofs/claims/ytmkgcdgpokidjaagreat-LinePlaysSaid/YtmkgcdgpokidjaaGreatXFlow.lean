import Derived.Test.YtmkgcdgpokidjaaGreatXFrame
set_option linter.unusedVariables false
/- Chapter 7: flows, in plain Lean. -/
namespace Go.Proofs.YtmkgcdgpokidjaaGreat
open Go.Eng

/-- May these bytes yet begin a frame? -/
def mayV : List Int → Bool
  | [] => false
  | [x] => x == 197
  | x :: y :: t => x == 197 && decide (y ≤ 80) && decide ((t.length : Int) < y + 4)
def scanV : Nat → List Int → List (List Int) × List Int × Nat
  | 0, l => ([], l, 0)
  | n + 1, l => if l = [] ∨ mayV l = true then ([], l, 0) else
    match frameG l with
    | some (b, k) => (b :: (scanV n (l.drop k)).1, (scanV n (l.drop k)).2.1, (scanV n (l.drop k)).2.2)
    | none => ((scanV n (l.drop 1)).1, (scanV n (l.drop 1)).2.1, (scanV n (l.drop 1)).2.2 + 1)
theorem frameG_pos {l b : List Int} {k : Nat} (h : frameG l = some (b, k)) : 6 ≤ k ∧ k ≤ l.length := by
  match l, h with
  | x :: y :: t, h0 =>
    have h1 : frameH x y t = some (b, k) := h0
    unfold frameH at h1
    by_cases hc : x = 197 ∧ y ≤ 80 ∧ y.toNat + 4 ≤ t.length ∧ (t.drop y.toNat).take 4 = fourV (sumV (197 :: y :: t.take y.toNat))
    · rw [if_pos hc] at h1
      cases h1
      have := hc.2.2.1
      refine ⟨by omega, by simp; omega⟩
    · rw [if_neg hc] at h1; cases h1
theorem scanV_eq : ∀ (n m : Nat) (l : List Int), l.length ≤ n → l.length ≤ m → scanV n l = scanV m l
  | 0, 0, _, _, _ => rfl
  | 0, m + 1, l, h, _ => by
    obtain rfl : l = [] := List.length_eq_zero_iff.1 (by omega)
    rfl
  | n + 1, 0, l, _, h => by
    obtain rfl : l = [] := List.length_eq_zero_iff.1 (by omega)
    rfl
  | n + 1, m + 1, l, h1, h2 => by
    unfold scanV
    by_cases hc : l = [] ∨ mayV l = true
    · rw [if_pos hc, if_pos hc]
    · rw [if_neg hc, if_neg hc]
      have hl : 0 < l.length := by
        cases l with
        | nil => exact absurd (.inl rfl) hc
        | cons a b => simp
      cases hf : frameG l with
      | none =>
        dsimp only
        rw [scanV_eq n m (l.drop 1) (by simp; omega) (by simp; omega)]
      | some r =>
        obtain ⟨b, k⟩ := r
        have := frameG_pos hf
        dsimp only
        rw [scanV_eq n m (l.drop k) (by simp; omega) (by simp; omega)]
/-- What a flow makes of these bytes: the bodies, what it holds, and how many it lost. -/
def flowV (l : List Int) : List (List Int) × List Int × Nat := scanV l.length l
theorem flowV_nil : flowV [] = ([], [], 0) := rfl
theorem flowV_may {l : List Int} (h : mayV l = true) : flowV l = ([], l, 0) := by
  unfold flowV
  cases l with
  | nil => rfl
  | cons a b =>
    show scanV (b.length + 1) (a :: b) = _
    unfold scanV
    rw [if_pos (Or.inr h)]
theorem flowV_some {l b : List Int} {k : Nat} (h : mayV l = false) (hf : frameG l = some (b, k)) : flowV l = (b :: (flowV (l.drop k)).1, (flowV (l.drop k)).2.1, (flowV (l.drop k)).2.2) := by
  have hp := frameG_pos hf
  cases l with
  | nil => simp at hp; omega
  | cons a t =>
    have e : flowV (a :: t) = scanV (t.length + 1) (a :: t) := rfl
    rw [e]
    unfold scanV
    rw [if_neg (by rintro (h' | h'); · cases h'
                   · rw [h] at h'; cases h'), hf]
    dsimp only
    have := scanV_eq t.length ((a :: t).drop k).length ((a :: t).drop k) (by simp at hp ⊢; omega) (Nat.le_refl _)
    rw [this]; rfl
theorem flowV_none {l : List Int} (h0 : l ≠ []) (h : mayV l = false) (hf : frameG l = none) : flowV l = ((flowV (l.drop 1)).1, (flowV (l.drop 1)).2.1, (flowV (l.drop 1)).2.2 + 1) := by
  cases l with
  | nil => exact absurd rfl h0
  | cons a t =>
    have e : flowV (a :: t) = scanV (t.length + 1) (a :: t) := rfl
    rw [e]
    unfold scanV
    rw [if_neg (by rintro (h' | h'); · cases h'
                   · rw [h] at h'; cases h'), hf]
    rfl
theorem mayV_frame {l b : List Int} {k : Nat} (hb : Bytes l) (h : mayV l = true) : frameG l = none := by
  match l, h, hb with
  | [x], _, _ => rfl
  | x :: y :: t, h, hb =>
    have hy := hb y (by simp)
    simp only [mayV, Bool.and_eq_true, beq_iff_eq, decide_eq_true_eq] at h
    obtain ⟨⟨rfl, h1⟩, h2⟩ := h
    rw [frameG_cons ⟨hy.1, h1⟩, if_neg (by rintro ⟨h3, _⟩; omega)]
theorem frame_notmay {body : List Int} (hl : body.length ≤ 80) (rest : List Int) : mayV (frameV body ++ rest) = false := by
  show ((197 : Int) == 197 && decide ((body.length : Int) ≤ 80) && decide (((body ++ fourV (sumV (bodyV body)) ++ rest).length : Int) < (body.length : Int) + 4)) = false
  have := fourV_len (sumV (bodyV body))
  rw [decide_eq_false (p := (((body ++ fourV (sumV (bodyV body)) ++ rest).length : Int) < (body.length : Int) + 4)) (by simp only [List.length_append]; omega), Bool.and_false]
/-- What more bytes do behind these. -/
theorem frameG_app {l m b : List Int} {k : Nat} (h : frameG l = some (b, k)) : frameG (l ++ m) = some (b, k) := by
  match l, h with
  | x :: y :: t, h0 =>
    have h1 : frameH x y t = some (b, k) := h0
    show frameH x y (t ++ m) = some (b, k)
    unfold frameH at h1 ⊢
    by_cases hc : x = 197 ∧ y ≤ 80 ∧ y.toNat + 4 ≤ t.length ∧ (t.drop y.toNat).take 4 = fourV (sumV (197 :: y :: t.take y.toNat))
    · rw [if_pos hc] at h1
      have hlen := hc.2.2.1
      rw [List.take_append_of_le_length (by omega), List.drop_append_of_le_length (by omega), List.take_append_of_le_length (by simp; omega), if_pos ⟨hc.1, hc.2.1, by simp; omega, hc.2.2.2⟩]
      exact h1
    · rw [if_neg hc] at h1; cases h1
theorem notmay_app {l : List Int} (m : List Int) (h0 : l ≠ []) (h : mayV l = false) : mayV (l ++ m) = false := by
  match l, h0, h with
  | [x], _, h =>
    have h : (x == 197) = false := h
    cases m with
    | nil => exact h
    | cons y t => show (x == 197 && _ && _) = false; rw [h]; rfl
  | x :: y :: t, _, h =>
    show (x == 197 && decide (y ≤ 80) && decide (((t ++ m).length : Int) < y + 4)) = false
    have h : (x == 197 && decide (y ≤ 80) && decide ((t.length : Int) < y + 4)) = false := h
    cases h1 : (x == 197 && decide (y ≤ 80)) with
    | false => rfl
    | true =>
      rw [h1, Bool.true_and] at h
      have := of_decide_eq_false h
      rw [Bool.true_and]
      exact decide_eq_false (by simp; omega)
theorem none_app {l : List Int} (m : List Int) (h0 : l ≠ []) (hb : Bytes l) (h : mayV l = false) (hf : frameG l = none) : frameG (l ++ m) = none := by
  match l, h0, h, hf, hb with
  | [x], _, h, _, _ =>
    have h : (x == 197) = false := h
    cases m with
    | nil => rfl
    | cons y t => exact frameG_head (.inl (by simpa using h))
  | x :: y :: t, _, h, hf, hb =>
    have hy := hb y (by simp)
    have h : (x == 197 && decide (y ≤ 80) && decide ((t.length : Int) < y + 4)) = false := h
    show frameG (x :: y :: (t ++ m)) = none
    by_cases hx : x = 197
    · subst hx
      by_cases h80 : y ≤ 80
      · rw [decide_eq_true h80] at h
        have hlen : ¬ ((t.length : Int) < y + 4) := of_decide_eq_false (by simpa using h)
        rw [frameG_cons ⟨hy.1, h80⟩] at hf ⊢
        have hyl : y.toNat + 4 ≤ t.length := by omega
        rw [List.take_append_of_le_length (by omega), List.drop_append_of_le_length (by omega), List.take_append_of_le_length (by simp; omega)]
        by_cases he : (t.drop y.toNat).take 4 = fourV (sumV (197 :: y :: t.take y.toNat))
        · rw [if_pos ⟨hyl, he⟩] at hf; cases hf
        · rw [if_neg (fun hh => he hh.2)]
      · exact frameG_head (.inr (by omega))
    · exact frameG_head (.inl hx)
/-- A flow makes the same of bytes in parts. -/
theorem flowV_app : ∀ (n : Nat) (l m : List Int), l.length ≤ n → Bytes l → flowV (l ++ m) = ((flowV l).1 ++ (flowV ((flowV l).2.1 ++ m)).1, (flowV ((flowV l).2.1 ++ m)).2.1, (flowV l).2.2 + (flowV ((flowV l).2.1 ++ m)).2.2)
  | n, l, m, hn, hb => by
    by_cases h0 : l = []
    · subst h0; rw [flowV_nil]; simp
    · cases hm : mayV l with
      | true => rw [flowV_may hm]; simp
      | false =>
        have hpos : 0 < l.length := List.length_pos_iff.2 h0
        obtain ⟨n, rfl⟩ : ∃ k, n = k + 1 := ⟨n - 1, by omega⟩
        cases hf : frameG l with
        | none =>
          have e1 := flowV_none h0 hm hf
          have e2 := flowV_none (l := l ++ m) (by simp [h0]) (notmay_app m h0 hm) (none_app m h0 hb hm hf)
          rw [List.drop_append_of_le_length (by omega), flowV_app n (l.drop 1) m (by simp; omega) (hb.drop 1)] at e2
          rw [e2, e1]
          simp only [Prod.mk.injEq, true_and]
          omega
        | some r =>
          obtain ⟨b, k⟩ := r
          have hk := frameG_pos hf
          have e1 := flowV_some hm hf
          have e2 := flowV_some (notmay_app m h0 hm) (frameG_app (m := m) hf)
          rw [List.drop_append_of_le_length (by omega), flowV_app n (l.drop k) m (by simp; omega) (hb.drop k)] at e2
          rw [e2, e1]
          simp
/-- No byte goes astray. -/
theorem flowV_count : ∀ (n : Nat) (l : List Int), l.length ≤ n → Bytes l → (((flowV l).1.map fun b => b.length + 6).sum + (flowV l).2.1.length + (flowV l).2.2 = l.length) ∧ (∀ b ∈ (flowV l).1, Bytes b) ∧ Bytes (flowV l).2.1
  | n, l, hn, hb => by
    by_cases h0 : l = []
    · subst h0; rw [flowV_nil]; exact ⟨rfl, by simp, hb⟩
    · cases hm : mayV l with
      | true => rw [flowV_may hm]; exact ⟨by simp, by simp, hb⟩
      | false =>
        have hpos : 0 < l.length := List.length_pos_iff.2 h0
        obtain ⟨n, rfl⟩ : ∃ k, n = k + 1 := ⟨n - 1, by omega⟩
        cases hf : frameG l with
        | none =>
          rw [flowV_none h0 hm hf]
          obtain ⟨h1, h2, h3⟩ := flowV_count n (l.drop 1) (by simp; omega) (hb.drop 1)
          refine ⟨?_, h2, h3⟩
          rw [List.length_drop] at h1
          dsimp only
          omega
        | some r =>
          obtain ⟨b, k⟩ := r
          obtain ⟨h80, hk1, hk2, hk3⟩ := frameG_inv hb hf
          rw [flowV_some hm hf]
          obtain ⟨h1, h2, h3⟩ := flowV_count n (l.drop k) (by simp; omega) (hb.drop k)
          refine ⟨?_, ?_, h3⟩
          · rw [List.length_drop] at h1
            simp only [List.map_cons, List.sum_cons]
            omega
          · intro x hx
            rcases List.mem_cons.1 hx with rfl | hx
            · intro y hy
              have : y ∈ frameV x := by simp [frameV, bodyV, hy]
              rw [← hk2] at this
              exact hb y (List.mem_of_mem_take this)
            · exact h2 x hx
theorem flowV_frames : ∀ (bs : List (List Int)), (∀ b ∈ bs, b.length ≤ 80) → flowV (bs.map frameV).flatten = (bs, [], 0)
  | [], _ => rfl
  | b :: bs, h => by
    have hl := h b (by simp)
    rw [List.map_cons, List.flatten_cons, flowV_some (frame_notmay hl _) (frameG_put hl _)]
    rw [show (frameV b ++ (bs.map frameV).flatten).drop (b.length + 6) = (bs.map frameV).flatten by
      rw [← frameV_len b, List.drop_append_of_le_length (Nat.le_refl _), List.drop_length, List.nil_append]]
    rw [flowV_frames bs fun x hx => h x (by simp [hx])]
theorem flowV_noise : ∀ (noise m : List Int), (∀ b ∈ noise, b ≠ 197) → flowV (noise ++ m) = ((flowV m).1, (flowV m).2.1, noise.length + (flowV m).2.2)
  | [], m, _ => by simp
  | x :: noise, m, h => by
    have hx := h x (by simp)
    have hmay : mayV (x :: (noise ++ m)) = false := by
      cases hc : noise ++ m with
      | nil => show (x == 197) = false; simpa using hx
      | cons y t => show (x == 197 && _ && _) = false; rw [show (x == 197) = false by simpa using hx]; rfl
    have hf : frameG (x :: (noise ++ m)) = none := by
      cases hc : noise ++ m with
      | nil => rfl
      | cons y t => exact frameG_head (.inl hx)
    rw [List.cons_append, flowV_none (by simp) hmay hf]
    show ((flowV (noise ++ m)).1, (flowV (noise ++ m)).2.1, (flowV (noise ++ m)).2.2 + 1) = _
    rw [flowV_noise noise m fun b hb => h b (by simp [hb])]
    simp only [Prod.mk.injEq, true_and, List.length_cons]
    omega
theorem mayV_cut {body : List Int} (hl : body.length ≤ 80) {k : Nat} (h0 : 0 < k) (hk : k < (frameV body).length) : mayV ((frameV body).take k) = true := by
  have hlen := frameV_len body
  match k, h0 with
  | 1, _ => rfl
  | k + 2, _ =>
    show ((197 : Int) == 197 && decide ((body.length : Int) ≤ 80) && decide ((((body ++ fourV (sumV (bodyV body))).take k).length : Int) < (body.length : Int) + 4)) = true
    rw [decide_eq_true (by omega), decide_eq_true (by rw [List.length_take]; simp [fourV_len]; omega)]; rfl
end Go.Proofs.YtmkgcdgpokidjaaGreat

/- Chapter 7: flows, step by step. -/
namespace Go.Proofs.YtmkgcdgpokidjaaGreat
open Go.Eng

theorem rput6_any {p0 : Sl} {g h : Hp} {l : List Hp} {body : List Int} (o : On h l) (hg : g ∈ l) (r : Row (cI .u8) g p0 body) (hb : Bytes body) {Q : Sl × Bool → Hp → Prop}
    (h0 : 80 < body.length → Q (⟨none, 0, 0⟩, false) h) (h1 : body.length ≤ 80 → ∀ s d h', On h' (d :: l) → Own (cI .u8) d s (frameV body) → Q (s, true) h') : callP Tryz.prog 71 [Value.slice p0.a p0.len p0.cap] (tupC [cSl, cB]) h Q := by
  by_cases h80 : body.length ≤ 80
  · exact rput6_ok o hg r hb (by omega) h0 h1
  · have hl := r.1
    refine c71 ?_
    unfold F71
    exact cond_d (fun _ => h0 (by omega)) fun h => by omega
theorem begins_ok {p0 : Sl} {g h : Hp} {bs : List Int} (hg : g.sub h) (r : Row (cI .u8) g p0 bs) (hb : Bytes bs) (hn : bs.length ≤ 1000000) {Q : Bool → Hp → Prop} (hq : Q (mayV bs) h) : callP Tryz.prog 45 [Value.slice p0.a p0.len p0.cap] cB h Q := by
  refine c45 ?_
  unfold F45
  have hl := r.1
  match bs, r, hb, hl, hq, hn with
  | [], r, hb, hl, hq, _ =>
    refine join_i (fun t h1 => h1 = h ∧ t = true) ?_ fun J hJ => cond_t (by rw [hl]; rfl) (hJ _ _ ⟨rfl, rfl⟩)
    rintro t h1 ⟨rfl, rfl⟩
    exact cond_t rfl hq
  | [x], r, hb, hl, hq, _ =>
    refine join_i (fun t h1 => h1 = h ∧ t = (x != 197)) ?_ fun J hJ => cond_f (by rw [hl]; rfl) ?_
    · rintro t h1 ⟨rfl, rfl⟩
      refine cond_i (fun e => ?_) fun e => cond_t (by rw [hl]; rfl) ?_
      · have : mayV [x] = false := by show (x == 197) = false; simpa using e
        rw [this] at hq
        exact hq
      · have : mayV [x] = true := by show (x == 197) = true; simpa using e
        rw [this] at hq
        exact hq
    · exact idx_row r (by omega) (by simp) fun a ha => load_row r hg rfl ha (i := 0) (m := 0) rfl rfl (hJ _ _ ⟨rfl, rfl⟩)
  | x :: y :: t, r, hb, hl, hq, hn =>
    have hy := hb y (by simp)
    have hl : p0.len = t.length + 2 := hl
    have hn : t.length + 2 ≤ 1000000 := hn
    have hm : mayV (x :: y :: t) = (x == 197 && decide (y ≤ 80) && decide ((t.length : Int) < y + 4)) := rfl
    rw [hm] at hq
    refine join_i (fun t h1 => h1 = h ∧ t = (x != 197)) ?_ fun J hJ => cond_f (by rw [hl]; simp; omega) ?_
    · rintro t h1 ⟨rfl, rfl⟩
      refine cond_i (fun e => ?_) fun e => cond_f (by rw [hl]; simp; omega) ?_
      · rw [show (x == 197) = false by simpa using e] at hq
        exact hq
      · rw [show (x == 197) = true by simpa using e, Bool.true_and] at hq
        refine idx_row r (by omega) (by simp; omega) fun a ha => load_row r hg rfl ha (i := 1) (m := 1) rfl rfl ?_
        refine cond_d (fun h80 => ?_) fun h80 => ?_
        · rw [decide_eq_true h80, Bool.true_and] at hq
          refine idx_row r (by omega) (by simp; omega) fun a ha => load_row r hg rfl ha (i := 1) (m := 1) rfl rfl ?_
          rw [w64 (n := y) (by omega) (by omega), w64 (n := 6 + y) (by omega) (by omega), hl]
          have e : decide (((t.length + 2 : Nat) : Int) < 6 + y) = decide ((t.length : Int) < y + 4) := decide_eq_decide.2 (by omega)
          rw [e]
          exact hq
        · rw [decide_eq_false h80, Bool.false_and] at hq
          exact hq
    · exact idx_row r (by omega) (by simp; omega) fun a ha => load_row r hg rfl ha (i := 0) (m := 0) rfl rfl (hJ _ _ ⟨rfl, rfl⟩)
theorem may_ok {p0 : Sl} {g h : Hp} {bs : List Int} (hg : g.sub h) (r : Row (cI .u8) g p0 bs) (hb : Bytes bs) (hn : bs.length ≤ 1000000) {Q : Bool → Hp → Prop} (hq : Q (mayV bs) h) : callP Tryz.prog 57 [Value.slice p0.a p0.len p0.cap] cB h Q := by
  refine c57 ?_
  unfold F57
  have hl := r.1
  match bs, r, hb, hl, hq, hn with
  | [], r, hb, hl, hq, _ =>
    refine join_i (fun t h1 => h1 = h ∧ t = true) ?_ fun J hJ => cond_t (by rw [hl]; rfl) (hJ _ _ ⟨rfl, rfl⟩)
    rintro t h1 ⟨rfl, rfl⟩
    exact cond_t rfl hq
  | [x], r, hb, hl, hq, _ =>
    refine join_i (fun t h1 => h1 = h ∧ t = (x != 197)) ?_ fun J hJ => cond_f (by rw [hl]; rfl) ?_
    · rintro t h1 ⟨rfl, rfl⟩
      refine cond_i (fun e => ?_) fun e => cond_t (by rw [hl]; rfl) ?_
      · have : mayV [x] = false := by show (x == 197) = false; simpa using e
        rw [this] at hq
        exact hq
      · have : mayV [x] = true := by show (x == 197) = true; simpa using e
        rw [this] at hq
        exact hq
    · exact idx_row r (by omega) (by simp) fun a ha => load_row r hg rfl ha (i := 0) (m := 0) rfl rfl (hJ _ _ ⟨rfl, rfl⟩)
  | x :: y :: t, r, hb, hl, hq, hn =>
    have hy := hb y (by simp)
    have hl : p0.len = t.length + 2 := hl
    have hn : t.length + 2 ≤ 1000000 := hn
    have hm : mayV (x :: y :: t) = (x == 197 && decide (y ≤ 80) && decide ((t.length : Int) < y + 4)) := rfl
    rw [hm] at hq
    refine join_i (fun t h1 => h1 = h ∧ t = (x != 197)) ?_ fun J hJ => cond_f (by rw [hl]; simp; omega) ?_
    · rintro t h1 ⟨rfl, rfl⟩
      refine cond_i (fun e => ?_) fun e => cond_f (by rw [hl]; simp; omega) ?_
      · rw [show (x == 197) = false by simpa using e] at hq
        exact hq
      · rw [show (x == 197) = true by simpa using e, Bool.true_and] at hq
        refine idx_row r (by omega) (by simp; omega) fun a ha => load_row r hg rfl ha (i := 1) (m := 1) rfl rfl ?_
        rw [w64 (n := y) (by omega) (by omega)]
        refine cond_d (fun h80 => ?_) fun h80 => ?_
        · rw [decide_eq_true h80, Bool.true_and] at hq
          refine idx_row r (by omega) (by simp; omega) fun a ha => load_row r hg rfl ha (i := 1) (m := 1) rfl rfl ?_
          rw [w64 (n := y) (by omega) (by omega), w64 (n := 6 + y) (by omega) (by omega), hl]
          have e : decide (((t.length + 2 : Nat) : Int) < 6 + y) = decide ((t.length : Int) < y + 4) := decide_eq_decide.2 (by omega)
          rw [e]
          exact hq
        · rw [decide_eq_false h80, Bool.false_and] at hq
          exact hq
    · exact idx_row r (by omega) (by simp; omega) fun a ha => load_row r hg rfl ha (i := 0) (m := 0) rfl rfl (hJ _ _ ⟨rfl, rfl⟩)
theorem same7_ok {p0 p1 : Sl} {g0 g1 h : Hp} {ss0 ss1 : List Sl} {xs ys : List (List Int)} (h0 : g0.sub h) (h1 : g1.sub h) (r0 : Row cSl g0 p0 ss0) (r1 : Row cSl g1 p1 ss1) (rr0 : Rows2 g0 ss0 xs) (rr1 : Rows2 g1 ss1 ys) (hb0 : ∀ x ∈ xs, Bytes x) (hb1 : ∀ y ∈ ys, Bytes y) (hl : xs.length ≤ 1000000)
    {Q : Bool → Hp → Prop} (hq : Q (decide (xs = ys)) h) : callP Tryz.prog 13 [Value.slice p0.a p0.len p0.cap, Value.slice p1.a p1.len p1.cap] cB h Q := by
  refine c13 ?_
  unfold F13
  have l0 := r0.1
  have l1 := r1.1
  have m0 := rr0.len
  have m1 := rr1.len
  refine cond_i (fun e => ?_) fun e => ?_
  · have : xs ≠ ys := by rintro rfl; simp at e; omega
    rw [decide_eq_false this] at hq
    exact hq
  · have hlen : xs.length = ys.length := by simp at e; omega
    refine loop_i (fun z h' => ∃ i : Nat, z = i ∧ i ≤ xs.length ∧ xs.take i = ys.take i ∧ h' = h) (fun z => xs.length - z.toNat) ⟨0, rfl, Nat.zero_le _, rfl, rfl⟩ ?_
    rintro J z h' again ⟨i, rfl, hle, htk, rfl⟩
    refine cond_d (fun hlt => ?_) fun hge => ?_
    · have hi : i < xs.length := by omega
      have a0 : ss0[i]? = some ss0[i] := List.getElem?_eq_getElem (by omega)
      have a1 : ss1[i]? = some ss1[i] := List.getElem?_eq_getElem (by omega)
      obtain ⟨x, hx, rx⟩ := rr0.get i _ a0
      obtain ⟨y, hy, ry⟩ := rr1.get i _ a1
      refine idx_row r0 (Int.natCast_nonneg i) (by omega) fun a ha => idx_row r1 (Int.natCast_nonneg i) (by omega) fun b hb => ?_
      refine load_row r0 h0 rfl ha (i := i) a0 (by simp) (str_row rx h0 ?_)
      refine load_row r1 h1 rfl hb (i := i) a1 (by simp) (str_row ry h1 ?_)
      rw [strEq_mk (hb0 x (List.mem_of_getElem? hx)) (hb1 y (List.mem_of_getElem? hy))]
      refine cond_i (fun hne => ?_) fun heq => ?_
      · have : xs ≠ ys := by rintro rfl; rw [hx] at hy; cases hy; simp at hne
        rw [decide_eq_false this] at hq
        exact hq
      · have hxy : x = y := by simpa using heq
        subst hxy
        refine again _ _ ⟨i + 1, w64n (by omega), by omega, ?_, rfl⟩ (by rw [w64n (by omega)]; omega)
        rw [List.take_add_one, List.take_add_one, htk, hx, hy]
    · have : xs = ys := by
        rw [List.take_of_length_le (by omega), List.take_of_length_le (by omega)] at htk
        exact htk
      rw [decide_eq_true this] at hq
      exact hq
/-- A flow that holds these bytes, and lost so many. -/
def IsFlow (p : Option Addr) (held : List Int) (lost : Nat) (c : Hp) (e : TypeId) : Prop :=
  ∃ b s d, p = some ⟨b, 0, none⟩ ∧ On c [ob b [.slice s.a s.len s.cap, .int .i64 lost] e, d] ∧ Own (cI .u8) d s held
theorem new7_of {h : Hp} {l : List Hp} {k : Nat} {e : TypeId} (o : On h (ob k [Value.slice none 0 0, Value.int .i64 0] e :: l)) : ∃ c, On h (c :: l) ∧ IsFlow (some ⟨k, 0, none⟩) [] 0 c e := by
  have o2 : On h ([ob k [Value.slice none 0 0, Value.int .i64 0] e, Hp.emp] ++ l) := o.emp.swap
  obtain ⟨o3, o4⟩ := o2.joined
  exact ⟨_, o3, k, ⟨none, 0, 0⟩, Hp.emp, rfl, o4, Own.nil _⟩
theorem new7_ok {h : Hp} {l : List Hp} (o : On h l) {Q : Option Addr → Hp → Prop} (hq : ∀ p c h', On h' (c :: l) → IsFlow p [] 0 c 88 → Q p h') : callP Tryz.prog 21 [] cP h Q := by
  refine c21 ?_
  unfold F21
  refine alloc_ob o fun k1 h1 o1 => ?_
  obtain ⟨c, o2, w⟩ := new7_of o1
  exact hq _ c h1 o2 w
theorem more_ok {A dO r dB h : Hp} {l : List Hp} {z s : Sl} {sls : List Sl} {outs : List (List Int)} {body : List Int} (o : On h (dB :: A :: dO :: r :: l)) (wo : Own cSl dO z sls) (rr : Rows2 r sls outs) (wb : Own (cI .u8) dB s body) (hn : sls.length ≤ 1000000)
    {K : Option Addr → Nat → Nat → Hp → Prop} (hk : ∀ p n m d' r' h', On h' (A :: d' :: r' :: l) → Own cSl d' ⟨p, n, m⟩ (sls ++ [s]) → Rows2 r' (sls ++ [s]) (outs ++ [body]) → K p n m h') :
    allocP (Obj.cells { toList := [Value.slice s.a s.len s.cap] } 27) h fun k3 h6 => appendP cSl 27 24 z.a z.len z.cap (some { block := k3, off := 0 }) 1 h6 K := by
  refine alloc_ob o fun k3 h6 o6 => ?_
  have r3 : Row cSl (ob k3 [Value.slice s.a s.len s.cap] 27) ⟨some ⟨k3, 0, none⟩, 1, 1⟩ [s] := row_ob rfl rfl
  have o7 : On h6 (dO :: ob k3 [Value.slice s.a s.len s.cap] 27 :: dB :: A :: r :: l) := o6.pick [3, 0, 1, 2, 4] 5 (by decide) (by decide)
  refine append_own (g := ob k3 [Value.slice s.a s.len s.cap] 27) (s := z) (t := ⟨some ⟨k3, 0, none⟩, 1, 1⟩) o7 rfl wo (by decide) r3 (o7.mem (by simp)) (by unfold roomP; simp; omega) fun d8 p8 n8 m8 h8 o8 w8 => ?_
  have o9 : On h8 ([r, dB] ++ A :: d8 :: l) := o8.pick [4, 2, 3, 0] 5 (by decide) (by decide)
  obtain ⟨oa, ob⟩ := o9.joined
  refine hk p8 n8 m8 d8 _ h8 (oa.pick [1, 2, 0] 3 (by decide) (by decide)) w8 (All2.app (Rows2.sub (ob.mem (by simp)) rr) ⟨wb.row.sub (ob.mem (by simp)), trivial⟩)
end Go.Proofs.YtmkgcdgpokidjaaGreat

/- Chapter 7: what a push does. -/
namespace Go.Proofs.YtmkgcdgpokidjaaGreat
open Go.Eng

theorem least {p : Nat → Prop} : ∀ n, p n → ∃ k, p k ∧ ∀ m, p m → k ≤ m := by
  intro n
  induction n using Nat.strongRecOn with
  | _ n ih =>
    intro hn
    by_cases h : ∃ m, m < n ∧ p m
    · obtain ⟨m, hm, hp⟩ := h
      exact ih m hm hp
    · exact ⟨n, hn, fun m hm => by
        rcases Nat.lt_or_ge m n with h' | h'
        · exact absurd ⟨m, h', hm⟩ h
        · exact h'⟩
open Classical in
/-- A loop: what holds at its head, and how far it yet goes. -/
theorem loop_n {T : Type} {x0 : T} {h0 : Hp} {B : (T → Hp → Prop) → T → Hp → Prop} (I : Nat → T → Hp → Prop) (n : Nat) (hi : I n x0 h0)
    (step : ∀ (J : T → Hp → Prop) (n : Nat) (x : T) (h : Hp), (∀ m x' h', I m x' h' → m < n → J x' h') → I n x h → B J x h) : loopP x0 h0 B := by
  refine ⟨fun x h => ∃ n, I n x h, fun x h => if h' : ∃ n, I n x h then Classical.choose (least (p := fun n => I n x h) _ h'.choose_spec) else 0, ⟨n, hi⟩, fun x h hI => ?_⟩
  have key : ∀ x h (h' : ∃ n, I n x h), (if h' : ∃ n, I n x h then Classical.choose (least (p := fun n => I n x h) _ h'.choose_spec) else 0) = Classical.choose (least (p := fun n => I n x h) _ h'.choose_spec) := fun x h h' => dif_pos h'
  have hs := Classical.choose_spec (least (p := fun n => I n x h) _ hI.choose_spec)
  refine step _ _ x h (fun m x' h' hm hlt => ⟨⟨m, hm⟩, ?_⟩) hs.1
  have hE : ∃ n, I n x' h' := ⟨m, hm⟩
  have hs' := Classical.choose_spec (least (p := fun n => I n x' h') _ hE.choose_spec)
  dsimp only
  rw [key x h hI, key x' h' hE]
  exact Nat.lt_of_le_of_lt (hs'.2 m hm) hlt
/-- Midway through these bytes. -/
def Mid (all rest : List Int) (outs : List (List Int)) (n : Nat) : Prop :=
  (flowV all).1 = outs ++ (flowV rest).1 ∧ (flowV all).2.1 = (flowV rest).2.1 ∧ (flowV all).2.2 = n + (flowV rest).2.2 ∧ Bytes rest ∧ outs.length + n + rest.length ≤ all.length
theorem Mid.start {all : List Int} (hb : Bytes all) : Mid all all [] 0 := ⟨rfl, rfl, by omega, hb, by simp⟩
theorem Mid.none {all rest : List Int} {outs : List (List Int)} {n : Nat} (m : Mid all rest outs n) (h0 : rest ≠ []) (h : mayV rest = false) (hf : frameG rest = none) : Mid all (rest.drop 1) outs (n + 1) := by
  obtain ⟨m1, m2, m3, m4, m5⟩ := m
  rw [flowV_none h0 h hf] at m1 m2 m3
  have := List.length_pos_iff.2 h0
  exact ⟨m1, m2, by dsimp only at m3; omega, m4.drop 1, by rw [List.length_drop]; omega⟩
theorem Mid.some {all rest : List Int} {outs : List (List Int)} {n : Nat} {b : List Int} {k : Nat} (m : Mid all rest outs n) (h : mayV rest = false) (hf : frameG rest = some (b, k)) : Mid all (rest.drop k) (outs ++ [b]) n := by
  obtain ⟨m1, m2, m3, m4, m5⟩ := m
  rw [flowV_some h hf] at m1 m2 m3
  have := frameG_pos hf
  exact ⟨by rw [m1]; simp, m2, m3, m4.drop k, by rw [List.length_drop, List.length_append, List.length_singleton]; omega⟩
theorem Mid.stop {all rest : List Int} {outs : List (List Int)} {n : Nat} (m : Mid all rest outs n) (h : rest = [] ∨ mayV rest = true) : flowV all = (outs, rest, n) := by
  obtain ⟨m1, m2, m3, m4, m5⟩ := m
  have e : flowV rest = ([], rest, 0) := by
    rcases h with rfl | h
    · rfl
    · exact flowV_may h
  rw [e] at m1 m2 m3
  obtain ⟨a, b, c⟩ : (flowV all).1 = outs ∧ (flowV all).2.1 = rest ∧ (flowV all).2.2 = n := ⟨by simpa using m1, m2, by simpa using m3⟩
  rw [← a, ← b, ← c]
def CapsOk : List Sl → List (List Int) → Prop := All2 fun s bs => bs.length ≤ s.cap
theorem push7c_ok {p : Option Addr} {held : List Int} {lost : Nat} {c g h : Hp} {l : List Hp} {m : Sl} {bs : List Int} (o : On h (c :: l)) (w : IsFlow p held lost c 88) (hg : g ∈ l) (r : Row (cI .u8) g m bs) (hbh : Bytes held) (hb : Bytes bs) (hl : held.length + bs.length ≤ 1000000) (hlost : lost ≤ 1000000)
    {Q : Sl → Hp → Prop} (hq : ∀ s ss c' r' h', On h' (c' :: r' :: l) → IsFlow p (flowV (held ++ bs)).2.1 (lost + (flowV (held ++ bs)).2.2) c' 88 → Row cSl r' s ss → Rows2 r' ss (flowV (held ++ bs)).1 → CapsOk ss (flowV (held ++ bs)).1 → Q s h') :
    callP Tryz.prog 25 [Value.pointer p, Value.slice m.a m.len m.cap] cSl h Q := by
  obtain ⟨b, s, d, rfl, oc, wd⟩ := w
  refine c25 ?_
  unfold F25
  dsimp only [nilP]
  have os := o.split oc
  refine cond_f rfl ?_
  refine load_ob (x := s) os 0 rfl rfl ?_
  refine append_own (g := g) (s := s) (t := m) os.swap rfl wd (by decide) r (os.mem (by simp [hg])) (by unfold roomP; omega) fun d1 p1 k1 k2 h1 o1 w1 => ?_
  have hball : Bytes (held ++ bs) := by
    intro x hx
    rcases List.mem_append.1 hx with hx | hx
    · exact hbh x hx
    · exact hb x hx
  have hal : (held ++ bs).length ≤ 1000000 := by rw [List.length_append]; exact hl
  generalize held ++ bs = all at hq w1 hball hal
  have oi : On h1 (ob b [.slice s.a s.len s.cap, .int .i64 (lost : Int)] 88 :: Hp.emp :: Hp.emp :: d1 :: l) := o1.swap.emp.emp.pick [2, 0, 1] 3 (by decide) (by decide)
  refine loop_i (fun z h' => ∃ (n : Nat) (outs : List (List Int)) (rest : List Int) (sls : List Sl) (dO r : Hp), Mid all rest outs n ∧
    On h' (ob b [.slice s.a s.len s.cap, .int .i64 ((lost + n : Nat) : Int)] 88 :: dO :: r :: d1 :: l) ∧ Own cSl dO z.1 sls ∧ Rows2 r sls outs ∧ Row (cI .u8) d1 z.2 rest ∧ rest.length ≤ z.2.cap ∧ CapsOk sls outs) (fun z => z.2.len)
    ⟨0, [], all, [], Hp.emp, Hp.emp, Mid.start hball, oi, Own.nil _, trivial, w1.row, w1.le_cap (by decide), trivial⟩ ?_
  rintro J z h2 again ⟨n, outs, rest, sls, dO, r2, mid, o2, wo, rr, rw2, hcap, hcs⟩
  have hlen := rw2.1
  have hbr := mid.2.2.2.1
  have hsz := mid.2.2.2.2
  have hsl := rr.len
  refine join_i (fun t h' => h' = h2 ∧ (t = true → rest ≠ [] ∧ mayV rest = false) ∧ (t = false → rest = [] ∨ mayV rest = true)) ?_ fun J3 hJ3 => ?_
  · rintro t h3 ⟨rfl, ht, hf⟩
    refine cond_i (fun e => ?_) fun e => ?_
    · obtain ⟨hne, hnm⟩ := ht e
      clear ht hf
      have hpos := List.length_pos_iff.2 hne
      refine join_i (fun zz h' => J (zz.1, zz.2) h') (fun _ _ h => h) fun J2 hJ2 => ?_
      refine get6_ok (p0 := z.2) o2 (g := d1) (by simp) rw2 hbr hcap (by omega) (fun hn h4 o4 => ?_) fun body k hk s4 d4 h4 o4 w4 => ?_
      · refine cond_f rfl ?_
        refine load_ob (x := ((lost + n : Nat) : Int)) o4 0 rfl rfl ?_
        have ew : IntKind.i64.wrap (((lost + n : Nat) : Int) + 1) = ((lost + (n + 1) : Nat) : Int) := w64n (by omega)
        rw [ew]
        refine store_ob (cd := cI .i64) (i := 1) (x := ((lost + (n + 1) : Nat) : Int)) (vs' := [.slice s.a s.len s.cap, .int .i64 ((lost + (n + 1) : Nat) : Int)]) o4 rfl rfl (Nat.le_refl 2) fun h5 o5 => ?_
        refine ⟨by omega, by omega, ?_⟩
        have hc := rw2.cut (k := 1) (m := rest.length) (cap' := z.2.cap - 1) (by omega) (by omega) hcap rfl (z := 1) rfl
        rw [List.take_of_length_le (by simp)] at hc
        refine hJ2 _ _ (again _ _ ⟨n + 1, outs, rest.drop 1, sls, dO, r2, mid.none hne hnm hn, o5, wo, rr, ?_, ?_, hcs⟩ ?_)
        · rw [hlen]; exact hc
        · rw [List.length_drop]; dsimp only; omega
        · dsimp only; omega
      · have hk2 := frameG_pos hk
        refine cond_t rfl (more_ok o4 wo rr w4 (by omega) fun p n5 m5 d5 r5 h5 o5 w5 rr5 => ?_)
        refine ⟨by dsimp only; omega, by dsimp only; omega, ?_⟩
        have hc := rw2.cut (k := k) (m := rest.length) (cap' := z.2.cap - k) (by omega) (by omega) hcap rfl (z := 1) rfl
        rw [List.take_of_length_le (by simp)] at hc
        dsimp only
        rw [Int.toNat_natCast]
        refine hJ2 _ _ (again _ _ ⟨n, outs ++ [body], rest.drop k, sls ++ [s4], d5, r5, mid.some hnm hk, o5, w5, rr5, ?_, ?_, All2.app hcs ⟨w4.le_cap (by decide), trivial⟩⟩ ?_)
        · rw [hlen]; exact hc
        · rw [List.length_drop]; dsimp only; omega
        · dsimp only; omega
    · have hstop := mid.stop (hf e)
      rw [hstop] at hq
      refine alloc_ob o2 fun k10 h4 o4 => ?_
      have w0 : Own (cI .u8) (ob k10 [] 5) ⟨some ⟨k10, 0, none⟩, 0, 0⟩ [] := own_ob (cd := cI .u8) (xs := []) (rest := []) rfl rfl rfl
      refine append_own (g := d1) (s := ⟨some ⟨k10, 0, none⟩, 0, 0⟩) (t := z.2) o4 rfl w0 (by decide) rw2 (o4.mem (by simp)) (by unfold roomP; simp; omega) fun d5 p5 n5 m5 h5 o5 w5 => ?_
      have o5' : On h5 (ob b [.slice s.a s.len s.cap, .int .i64 ((lost + n : Nat) : Int)] 88 :: d5 :: dO :: r2 :: l) := o5.pick [1, 0, 2, 3] 5 (by decide) (by decide)
      refine store_ob (cd := cSl) (i := 0) (x := (⟨p5, n5, m5⟩ : Sl)) (vs' := [.slice p5 n5 m5, .int .i64 ((lost + n : Nat) : Int)]) o5' rfl rfl (Nat.le_succ 1) fun h6 o6 => ?_
      obtain ⟨o7, o8⟩ := On.joined (cs := [_, d5]) (l := dO :: r2 :: l) o6
      obtain ⟨o9, oa⟩ := On.joined (cs := [dO, r2]) (o7.pick [1, 2, 0] 3 (by decide) (by decide))
      exact hq z.1 sls _ _ h6 o9.swap ⟨b, ⟨p5, n5, m5⟩, d5, rfl, o8, w5⟩ (wo.row.sub (oa.mem (by simp))) (Rows2.sub (oa.mem (by simp)) rr) hcs
  · refine cond_d (fun hpos => ?_) fun h0 => hJ3 _ _ ⟨rfl, fun h => (by cases h), fun _ => .inl (List.length_eq_zero_iff.1 (by omega))⟩
    refine begins_ok (o2.mem (by simp)) rw2 hbr (by omega) (hJ3 _ _ ⟨rfl, fun h => ⟨?_, by simpa using h⟩, fun h => .inr (by simpa using h)⟩)
    rintro rfl
    rw [List.length_nil] at hlen
    omega
theorem push7_ok {p : Option Addr} {held : List Int} {lost : Nat} {c g h : Hp} {l : List Hp} {m : Sl} {bs : List Int} (o : On h (c :: l)) (w : IsFlow p held lost c 88) (hg : g ∈ l) (r : Row (cI .u8) g m bs) (hbh : Bytes held) (hb : Bytes bs) (hl : held.length + bs.length ≤ 1000000) (hlost : lost ≤ 1000000)
    {Q : Sl → Hp → Prop} (hq : ∀ s ss c' r' h', On h' (c' :: r' :: l) → IsFlow p (flowV (held ++ bs)).2.1 (lost + (flowV (held ++ bs)).2.2) c' 88 → Row cSl r' s ss → Rows2 r' ss (flowV (held ++ bs)).1 → Q s h') :
    callP Tryz.prog 25 [Value.pointer p, Value.slice m.a m.len m.cap] cSl h Q :=
  push7c_ok o w hg r hbh hb hl hlost fun s ss c' r' h' o' w' r1 rr _ => hq s ss c' r' h' o' w' r1 rr
theorem rpush7_ok {p : Option Addr} {held : List Int} {lost : Nat} {c g h : Hp} {l : List Hp} {m : Sl} {bs : List Int} {e : TypeId} (o : On h (c :: l)) (w : IsFlow p held lost c e) (hg : g ∈ l) (r : Row (cI .u8) g m bs) (hbh : Bytes held) (hb : Bytes bs) (hl : held.length + bs.length ≤ 1000000) (hlost : lost ≤ 1000000)
    {Q : Sl → Hp → Prop} (hq : ∀ s ss c' r' h', On h' (c' :: r' :: l) → IsFlow p (flowV (held ++ bs)).2.1 (lost + (flowV (held ++ bs)).2.2) c' e → Row cSl r' s ss → Rows2 r' ss (flowV (held ++ bs)).1 → Q s h') :
    callP Tryz.prog 29 [Value.pointer p, Value.slice m.a m.len m.cap] cSl h Q := by
  obtain ⟨b, s, d, rfl, oc, wd⟩ := w
  refine c29 ?_
  unfold F29
  dsimp only [nilP]
  have os := o.split oc
  refine alloc_ob os fun k0 h0 o0 => ?_
  refine load_ob (x := s) o0 1 rfl rfl ?_
  have w0 : Own (cI .u8) (ob k0 [] 5) ⟨some ⟨k0, 0, none⟩, 0, 0⟩ [] := own_ob (cd := cI .u8) (xs := []) (rest := []) rfl rfl rfl
  refine append_own (g := d) (s := ⟨some ⟨k0, 0, none⟩, 0, 0⟩) (t := s) o0 rfl w0 (by decide) wd.row (o0.mem (by simp)) (by unfold roomP; simp; omega) fun d1 p1 k1 k2 h1 o1 w1 => ?_
  have w1 : Own (cI .u8) d1 ⟨p1, k1, k2⟩ held := w1
  refine append_own (g := g) (s := ⟨p1, k1, k2⟩) (t := m) o1 rfl w1 (by decide) r (o1.mem (by simp [hg])) (by unfold roomP; simp; omega) fun d2 p2 k4 k5 h2 o2 w2 => ?_
  have hball : Bytes (held ++ bs) := by
    intro x hx
    rcases List.mem_append.1 hx with hx | hx
    · exact hbh x hx
    · exact hb x hx
  have hal : (held ++ bs).length ≤ 1000000 := by rw [List.length_append]; exact hl
  generalize held ++ bs = all at hq w2 hball hal
  have o2' : On h2 (ob b [.slice s.a s.len s.cap, .int .i64 (lost : Int)] e :: d2 :: l) := o2.pick [1, 0] 3 (by decide) (by decide)
  refine store_ob (cd := cSl) (i := 0) (x := (⟨p2, k4, k5⟩ : Sl)) (vs' := [.slice p2 k4 k5, .int .i64 (lost : Int)]) o2' rfl rfl (Nat.le_succ 1) fun h4 o4 => ?_
  have oi : On h4 (ob b [.slice p2 k4 k5, .int .i64 (lost : Int)] e :: Hp.emp :: Hp.emp :: d2 :: l) := o4.emp.emp.pick [2, 0, 1] 3 (by decide) (by decide)
  refine join_i (fun s5 h5 => ∃ (n : Nat) (outs : List (List Int)) (rest : List Int) (sls : List Sl) (dO r d1 : Hp) (sl : Sl), flowV all = (outs, rest, n) ∧
    On h5 (ob b [.slice sl.a sl.len sl.cap, .int .i64 ((lost + n : Nat) : Int)] e :: dO :: r :: d1 :: l) ∧ Own cSl dO s5 sls ∧ Rows2 r sls outs ∧ Own (cI .u8) d1 sl rest) ?_ fun J1 hJ1 => ?_
  · rintro s5 h5 ⟨n, outs, rest, sls, dO, r5, d5, sl, hstop, o5, wo, rr, w5⟩
    rw [hstop] at hq
    obtain ⟨o7, o8⟩ := On.joined (cs := [_, d5]) (l := dO :: r5 :: l) (o5.pick [0, 3, 1, 2] 4 (by decide) (by decide))
    obtain ⟨o9, oa⟩ := On.joined (cs := [dO, r5]) (o7.pick [1, 2, 0] 3 (by decide) (by decide))
    exact hq s5 sls _ _ h5 o9.swap ⟨b, sl, d5, rfl, o8, w5⟩ (wo.row.sub (oa.mem (by simp))) (Rows2.sub (oa.mem (by simp)) rr)
  refine loop_n (fun f z h' => ∃ (n : Nat) (outs : List (List Int)) (rest : List Int) (sls : List Sl) (dO r d1 : Hp) (sl : Sl), f = rest.length ∧ Mid all rest outs n ∧
    On h' (ob b [.slice sl.a sl.len sl.cap, .int .i64 ((lost + n : Nat) : Int)] e :: dO :: r :: d1 :: l) ∧ Own cSl dO z sls ∧ Rows2 r sls outs ∧ Own (cI .u8) d1 sl rest) all.length
    ⟨0, [], all, [], Hp.emp, Hp.emp, d2, ⟨p2, k4, k5⟩, rfl, Mid.start hball, oi, Own.nil _, trivial, w2⟩ ?_
  rintro J f z h6 again ⟨n, outs, rest, sls, dO, r6, d6, sl, rfl, mid, o6, wo, rr, w6⟩
  have hlen := w6.1
  have hbr := mid.2.2.2.1
  have hsz := mid.2.2.2.2
  have hsl := rr.len
  have hcap := w6.le_cap (by decide)
  refine load_ob (x := sl) o6 0 rfl rfl ?_
  refine cond_d (fun hpos => ?_) fun h0 => hJ1 _ _ ⟨n, outs, rest, sls, dO, r6, d6, sl, mid.stop (.inl (List.length_eq_zero_iff.1 (by omega))), o6, wo, rr, w6⟩
  have hne : rest ≠ [] := by rintro rfl; rw [List.length_nil] at hlen; omega
  refine join_i (fun zz h' => J zz h') (fun _ _ h => h) fun J3 hJ3 => ?_
  refine load_ob (x := sl) o6 0 rfl rfl ?_
  refine rget6_ok o6 (g := d6) (by simp) w6.row hbr hcap (by omega) (fun hn h8 o8 => ?_) fun body k hk s4 d4 h4 o4 w4 => ?_
  · refine cond_f rfl ?_
    refine load_ob (x := sl) o8 0 rfl rfl ?_
    refine may_ok (o8.mem (by simp)) w6.row hbr (by omega) ?_
    refine cond_i (fun hm => hJ1 _ _ ⟨n, outs, rest, sls, dO, r6, d6, sl, mid.stop (.inr hm), o8, wo, rr, w6⟩) fun hnm => ?_
    refine load_ob (x := sl) o8 0 rfl rfl ?_
    refine ⟨by omega, by omega, ?_⟩
    refine store_ob (cd := cSl) (i := 0) (x := (⟨(cutA sl.a 1 sl.cap 1), (sl.len - 1), (sl.cap - 1)⟩ : Sl)) (vs' := [.slice (cutA sl.a 1 sl.cap 1) (sl.len - 1) (sl.cap - 1), .int .i64 ((lost + n : Nat) : Int)]) o8 rfl rfl (Nat.le_succ 1) fun h9 o9 => ?_
    refine load_ob (x := ((lost + n : Nat) : Int)) o9 0 rfl rfl ?_
    have ew : IntKind.i64.wrap (((lost + n : Nat) : Int) + 1) = ((lost + (n + 1) : Nat) : Int) := w64n (by omega)
    rw [ew]
    refine store_ob (cd := cI .i64) (i := 1) (x := ((lost + (n + 1) : Nat) : Int)) (vs' := [.slice (cutA sl.a 1 sl.cap 1) (sl.len - 1) (sl.cap - 1), .int .i64 ((lost + (n + 1) : Nat) : Int)]) o9 rfl rfl (Nat.le_refl 2) fun ha oa => ?_
    have wf := w6.from rfl (by decide) (k := 1) (by omega) (z := 1) rfl
    exact hJ3 _ _ (again _ _ _ ⟨n + 1, outs, rest.drop 1, sls, dO, r6, d6, ⟨cutA sl.a 1 sl.cap 1, sl.len - 1, sl.cap - 1⟩, rfl, mid.none hne hnm hn, oa, wo, rr, wf⟩ (by rw [List.length_drop]; omega))
  · have hk2 := frameG_pos hk
    have hnm : mayV rest = false := by
      cases hm : mayV rest with
      | false => rfl
      | true => rw [mayV_frame (b := []) (k := 0) hbr hm] at hk; cases hk
    refine cond_t rfl (more_ok o4 wo rr w4 (by omega) fun p n5 m5 d5 r5 h5 o5 w5 rr5 => ?_)
    refine load_ob (x := sl) o5 0 rfl rfl ?_
    refine ⟨by dsimp only; omega, by dsimp only; omega, ?_⟩
    dsimp only
    rw [Int.toNat_natCast]
    refine store_ob (cd := cSl) (i := 0) (x := (⟨(cutA sl.a k sl.cap 1), (sl.len - k), (sl.cap - k)⟩ : Sl)) (vs' := [.slice (cutA sl.a k sl.cap 1) (sl.len - k) (sl.cap - k), .int .i64 ((lost + n : Nat) : Int)]) o5 rfl rfl (Nat.le_succ 1) fun h9 o9 => ?_
    have wf := w6.from rfl (by decide) (k := k) (by omega) (z := 1) rfl
    exact hJ3 _ _ (again _ _ _ ⟨n, outs ++ [body], rest.drop k, sls ++ [s4], d5, r5, d6, ⟨cutA sl.a k sl.cap 1, sl.len - k, sl.cap - k⟩, rfl, mid.some hnm hk, o9, w5, rr5, wf⟩ (by rw [List.length_drop]; omega))
end Go.Proofs.YtmkgcdgpokidjaaGreat

/- Chapter 7: smaller calls. -/
namespace Go.Proofs.YtmkgcdgpokidjaaGreat
open Go.Eng

theorem flow_bytes {l : List Int} (hb : Bytes l) : (∀ b ∈ (flowV l).1, Bytes b) ∧ Bytes (flowV l).2.1 := (flowV_count l.length l (Nat.le_refl _) hb).2
theorem sum_ge {l : List (List Int)} : l.length ≤ (l.map fun b => b.length + 6).sum := by
  induction l with
  | nil => exact Nat.le_refl _
  | cons a l ih => simp only [List.map_cons, List.sum_cons, List.length_cons]; omega
theorem flow_len {l : List Int} (hb : Bytes l) : (flowV l).1.length + (flowV l).2.1.length + (flowV l).2.2 ≤ l.length := by
  have h1 := (flowV_count l.length l (Nat.le_refl _) hb).1
  have h2 := sum_ge (l := (flowV l).1)
  omega
theorem flow_at {k : Nat} {held : List Int} {lost : Nat} {c : Hp} {e : TypeId} (w : IsFlow (some ⟨k, 0, none⟩) held lost c e) : ∃ s : Sl, s.len = held.length ∧ c.rds ⟨k, 0, none⟩ [Value.slice s.a s.len s.cap] ∧ c.rds ⟨k, 1, none⟩ [Value.int .i64 lost] := by
  obtain ⟨b, s, d, hb, oc, wd⟩ := w
  injection hb with hb
  injection hb with hb
  subst hb
  exact ⟨s, wd.1, Hp.sub_rds (oc.get (i := 0) rfl) (ob_rds rfl), Hp.sub_rds (oc.get (i := 0) rfl) (ob_rds rfl)⟩
theorem flow_some {p : Option Addr} {held : List Int} {lost : Nat} {c : Hp} {e : TypeId} (w : IsFlow p held lost c e) : ∃ k, p = some ⟨k, 0, none⟩ := by
  obtain ⟨b, s, d, hb, oc, wd⟩ := w
  exact ⟨b, hb⟩
theorem push7_nil {m : Sl} {h : Hp} {Q : Sl → Hp → Prop} (hq : Q ⟨none, 0, 0⟩ h) : callP Tryz.prog 25 [Value.pointer none, Value.slice m.a m.len m.cap] cSl h Q := by
  refine c25 ?_
  unfold F25
  exact cond_t rfl hq
theorem frames_len : ∀ {bss : List (List Int)}, (∀ b ∈ bss, b.length ≤ 80) → (bss.map frameV).flatten.length ≤ 86 * bss.length
  | [], _ => by simp
  | b :: bss, h => by
    have := frames_len (bss := bss) fun x hx => h x (by simp [hx])
    have h1 := h b (by simp)
    rw [List.map_cons, List.flatten_cons, List.length_append, frameV_len, List.length_cons]
    omega
/-- The frames of these bodies, one behind the other. -/
theorem frames_ok {g h : Hp} {l : List Hp} {p z0 : Sl} {ss : List Sl} {bss : List (List Int)} {pre : List Int} {d0 : Hp} (o : On h (d0 :: l)) (hg : g ∈ l) (w0 : Own (cI .u8) d0 z0 pre) (r : Row cSl g p ss) (rr : Rows2 g ss bss) (hb : ∀ b ∈ bss, Bytes b) (hpre : pre.length ≤ 1000) (hn : ss.length ≤ 100)
    {Q : Bool → Hp → Prop} {K : Sl × Int → Hp → Prop} (hQ : ∀ h', g.sub h' → Q true h') (hK : ∀ z i d h', On h' (d :: l) → Own (cI .u8) d z (pre ++ (bss.map frameV).flatten) → (∀ b ∈ bss, b.length ≤ 80) → K (z, i) h') :
    loopP (z0, (0 : Int)) h fun J1 z1 h1 =>
      condP (decide (z1.snd < ↑p.len))
        (idxP p.a p.len z1.snd fun a1 =>
          loadP cSl (a1.add (z1.snd.toNat * 1)) h1 fun s1 =>
            callP Tryz.prog 71 [Value.slice s1.a s1.len s1.cap] (tupC [cSl, cB]) h1 fun z2 h2 =>
              condP (!z2.snd) (Q true h2) (appendP (cI IntKind.u8) 5 1 z1.fst.a z1.fst.len z1.fst.cap z2.fst.a z2.fst.len h2 fun p1 k1 k2 h3 => J1 ({ a := p1, len := k1, cap := k2 }, IntKind.i64.wrap (z1.snd + 1)) h3))
        (K z1 h1) := by
  have hl := r.1
  have hl2 := rr.len
  refine loop_i (fun z h' => ∃ (i : Nat) (d : Hp), z.2 = (i : Int) ∧ i ≤ bss.length ∧ (∀ b ∈ bss.take i, b.length ≤ 80) ∧ On h' (d :: l) ∧ Own (cI .u8) d z.1 (pre ++ ((bss.take i).map frameV).flatten)) (fun z => bss.length - z.2.toNat)
    ⟨0, d0, rfl, Nat.zero_le _, by simp, o, by simpa using w0⟩ ?_
  rintro J ⟨z, zi⟩ h1 again ⟨i, d, hzi, hle, h80, o1, w1⟩
  dsimp only at hzi
  subst hzi
  refine cond_d (fun hlt => ?_) fun hge => ?_
  · dsimp only at hlt ⊢
    have hi : i < bss.length := by omega
    have a0 : ss[i]? = some ss[i] := List.getElem?_eq_getElem (by omega)
    obtain ⟨x, hx, rx⟩ := rr.get i _ a0
    refine idx_row r (Int.natCast_nonneg i) (by omega) fun a ha => load_row r (o1.mem (by simp [hg])) rfl ha (i := i) a0 (by simp) ?_
    refine rput6_any o1 (g := g) (by simp [hg]) rx (hb x (List.mem_of_getElem? hx)) (fun _ => cond_t rfl (hQ _ (o1.mem (by simp [hg])))) fun hx80 s2 d2 h2 o2 w2 => ?_
    have htk : bss.take (i + 1) = bss.take i ++ [x] := by rw [List.take_add_one, hx]; rfl
    have h80' : ∀ b ∈ bss.take (i + 1), b.length ≤ 80 := by
      intro b hb
      rw [htk] at hb
      rcases List.mem_append.1 hb with hb | hb
      · exact h80 b hb
      · rw [List.mem_singleton] at hb; subst hb; exact hx80
    have hfl := frames_len h80
    have hfx := frameV_len x
    rw [List.length_take] at hfl
    refine cond_f rfl ?_
    refine append_own (g := d2) (s := z) (t := s2) o2.swap rfl w1 (by decide) w2.row (o2.mem (by simp)) (by unfold roomP; rw [List.length_append]; omega) fun d3 p3 n3 m3 h3 o3 w3 => ?_
    refine again _ _ ⟨i + 1, d3, w64n (by omega), by omega, h80', o3.sublist (List.Sublist.cons_cons d3 (List.sublist_cons_self _ _)), ?_⟩ (by dsimp only; rw [w64n (by omega)]; omega)
    rw [htk, List.map_append, List.flatten_append, List.map_singleton, List.flatten_singleton, ← List.append_assoc]
    exact w3
  · dsimp only at hge
    have : i = bss.length := by omega
    subst this
    rw [List.take_length] at h80 w1
    exact hK z _ d h1 o1 w1 h80
end Go.Proofs.YtmkgcdgpokidjaaGreat

/- Chapter 7: the laws of one flow. -/
namespace Go.Proofs.YtmkgcdgpokidjaaGreat
open Go.Eng

end Go.Proofs.YtmkgcdgpokidjaaGreat

/- Chapter 7: the laws of two flows. -/
namespace Go.Proofs.YtmkgcdgpokidjaaGreat
open Go.Eng

theorem flow_eta (l : List Int) : flowV l = ((flowV l).1, (flowV l).2.1, (flowV l).2.2) := rfl
theorem ints_of {W : World} {s : Sl} (h : Opn Tryz.prog W 138 [.slice s.a s.len s.cap]) : ∃ qs : List Int, Row (cI .i64) (hpOf W) s qs := by
  obtain ⟨_, _, _, xs, hr, hx⟩ := open_row (d := 3) (e := 3) (ls := [(.i .i64, 3)]) (cd := cI .i64) id (fun _ => rfl) h (by kernel_rfl) (by kernel_rfl) (by kernel_rfl)
  exact ⟨xs, hr⟩
end Go.Proofs.YtmkgcdgpokidjaaGreat
