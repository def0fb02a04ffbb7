/- Chapter 7: flows, in plain Lean. -/
import Derived.Test.YtmkgcdgpokidjaaFrameL
set_option linter.unusedVariables false
namespace Go.Proofs.Ytmkgcdgpokidjaa
open Go.Eng

/-- May these bytes yet begin a frame? -/
def mayV : List Int → Bool
  | [] => false
  | [x] => x == 197
  | x :: y :: t => x == 197 && decide (y ≤ 80) && decide ((t.length : Int) < y + 4)
def scanV : Nat → List Int → List (List Int) × List Int × Nat
  | 0, l => ([], l, 0)
  | n + 1, l => if l = [] ∨ mayV l = true then ([], l, 0) else
    match frameG l with
    | some (b, k) => (b :: (scanV n (l.drop k)).1, (scanV n (l.drop k)).2.1, (scanV n (l.drop k)).2.2)
    | none => ((scanV n (l.drop 1)).1, (scanV n (l.drop 1)).2.1, (scanV n (l.drop 1)).2.2 + 1)
theorem frameG_pos {l b : List Int} {k : Nat} (h : frameG l = some (b, k)) : 6 ≤ k ∧ k ≤ l.length := by
  match l, h with
  | x :: y :: t, h0 =>
    have h1 : frameH x y t = some (b, k) := h0
    unfold frameH at h1
    by_cases hc : x = 197 ∧ y ≤ 80 ∧ y.toNat + 4 ≤ t.length ∧ (t.drop y.toNat).take 4 = fourV (sumV (197 :: y :: t.take y.toNat))
    · rw [if_pos hc] at h1
      cases h1
      have := hc.2.2.1
      refine ⟨by omega, by simp; omega⟩
    · rw [if_neg hc] at h1; cases h1
theorem scanV_eq : ∀ (n m : Nat) (l : List Int), l.length ≤ n → l.length ≤ m → scanV n l = scanV m l
  | 0, 0, _, _, _ => rfl
  | 0, m + 1, l, h, _ => by
    obtain rfl : l = [] := List.length_eq_zero_iff.1 (by omega)
    rfl
  | n + 1, 0, l, _, h => by
    obtain rfl : l = [] := List.length_eq_zero_iff.1 (by omega)
    rfl
  | n + 1, m + 1, l, h1, h2 => by
    unfold scanV
    by_cases hc : l = [] ∨ mayV l = true
    · rw [if_pos hc, if_pos hc]
    · rw [if_neg hc, if_neg hc]
      have hl : 0 < l.length := by
        cases l with
        | nil => exact absurd (.inl rfl) hc
        | cons a b => simp
      cases hf : frameG l with
      | none =>
        dsimp only
        rw [scanV_eq n m (l.drop 1) (by simp; omega) (by simp; omega)]
      | some r =>
        obtain ⟨b, k⟩ := r
        have := frameG_pos hf
        dsimp only
        rw [scanV_eq n m (l.drop k) (by simp; omega) (by simp; omega)]
/-- What a flow makes of these bytes: the bodies, what it holds, and how many it lost. -/
def flowV (l : List Int) : List (List Int) × List Int × Nat := scanV l.length l
theorem flowV_nil : flowV [] = ([], [], 0) := rfl
theorem flowV_may {l : List Int} (h : mayV l = true) : flowV l = ([], l, 0) := by
  unfold flowV
  cases l with
  | nil => rfl
  | cons a b =>
    show scanV (b.length + 1) (a :: b) = _
    unfold scanV
    rw [if_pos (Or.inr h)]
theorem flowV_some {l b : List Int} {k : Nat} (h : mayV l = false) (hf : frameG l = some (b, k)) : flowV l = (b :: (flowV (l.drop k)).1, (flowV (l.drop k)).2.1, (flowV (l.drop k)).2.2) := by
  have hp := frameG_pos hf
  cases l with
  | nil => simp at hp; omega
  | cons a t =>
    have e : flowV (a :: t) = scanV (t.length + 1) (a :: t) := rfl
    rw [e]
    unfold scanV
    rw [if_neg (by rintro (h' | h'); · cases h'
                   · rw [h] at h'; cases h'), hf]
    dsimp only
    have := scanV_eq t.length ((a :: t).drop k).length ((a :: t).drop k) (by simp at hp ⊢; omega) (Nat.le_refl _)
    rw [this]; rfl
theorem flowV_none {l : List Int} (h0 : l ≠ []) (h : mayV l = false) (hf : frameG l = none) : flowV l = ((flowV (l.drop 1)).1, (flowV (l.drop 1)).2.1, (flowV (l.drop 1)).2.2 + 1) := by
  cases l with
  | nil => exact absurd rfl h0
  | cons a t =>
    have e : flowV (a :: t) = scanV (t.length + 1) (a :: t) := rfl
    rw [e]
    unfold scanV
    rw [if_neg (by rintro (h' | h'); · cases h'
                   · rw [h] at h'; cases h'), hf]
    rfl
theorem mayV_frame {l b : List Int} {k : Nat} (hb : Bytes l) (h : mayV l = true) : frameG l = none := by
  match l, h, hb with
  | [x], _, _ => rfl
  | x :: y :: t, h, hb =>
    have hy := hb y (by simp)
    simp only [mayV, Bool.and_eq_true, beq_iff_eq, decide_eq_true_eq] at h
    obtain ⟨⟨rfl, h1⟩, h2⟩ := h
    rw [frameG_cons ⟨hy.1, h1⟩, if_neg (by rintro ⟨h3, _⟩; omega)]
theorem frame_notmay {body : List Int} (hl : body.length ≤ 80) (rest : List Int) : mayV (frameV body ++ rest) = false := by
  show ((197 : Int) == 197 && decide ((body.length : Int) ≤ 80) && decide (((body ++ fourV (sumV (bodyV body)) ++ rest).length : Int) < (body.length : Int) + 4)) = false
  have := fourV_len (sumV (bodyV body))
  rw [decide_eq_false (p := (((body ++ fourV (sumV (bodyV body)) ++ rest).length : Int) < (body.length : Int) + 4)) (by simp only [List.length_append]; omega), Bool.and_false]
/-- What more bytes do behind these. -/
theorem frameG_app {l m b : List Int} {k : Nat} (h : frameG l = some (b, k)) : frameG (l ++ m) = some (b, k) := by
  match l, h with
  | x :: y :: t, h0 =>
    have h1 : frameH x y t = some (b, k) := h0
    show frameH x y (t ++ m) = some (b, k)
    unfold frameH at h1 ⊢
    by_cases hc : x = 197 ∧ y ≤ 80 ∧ y.toNat + 4 ≤ t.length ∧ (t.drop y.toNat).take 4 = fourV (sumV (197 :: y :: t.take y.toNat))
    · rw [if_pos hc] at h1
      have hlen := hc.2.2.1
      rw [List.take_append_of_le_length (by omega), List.drop_append_of_le_length (by omega), List.take_append_of_le_length (by simp; omega), if_pos ⟨hc.1, hc.2.1, by simp; omega, hc.2.2.2⟩]
      exact h1
    · rw [if_neg hc] at h1; cases h1
theorem notmay_app {l : List Int} (m : List Int) (h0 : l ≠ []) (h : mayV l = false) : mayV (l ++ m) = false := by
  match l, h0, h with
  | [x], _, h =>
    have h : (x == 197) = false := h
    cases m with
    | nil => exact h
    | cons y t => show (x == 197 && _ && _) = false; rw [h]; rfl
  | x :: y :: t, _, h =>
    show (x == 197 && decide (y ≤ 80) && decide (((t ++ m).length : Int) < y + 4)) = false
    have h : (x == 197 && decide (y ≤ 80) && decide ((t.length : Int) < y + 4)) = false := h
    cases h1 : (x == 197 && decide (y ≤ 80)) with
    | false => rfl
    | true =>
      rw [h1, Bool.true_and] at h
      have := of_decide_eq_false h
      rw [Bool.true_and]
      exact decide_eq_false (by simp; omega)
theorem none_app {l : List Int} (m : List Int) (h0 : l ≠ []) (hb : Bytes l) (h : mayV l = false) (hf : frameG l = none) : frameG (l ++ m) = none := by
  match l, h0, h, hf, hb with
  | [x], _, h, _, _ =>
    have h : (x == 197) = false := h
    cases m with
    | nil => rfl
    | cons y t => exact frameG_head (.inl (by simpa using h))
  | x :: y :: t, _, h, hf, hb =>
    have hy := hb y (by simp)
    have h : (x == 197 && decide (y ≤ 80) && decide ((t.length : Int) < y + 4)) = false := h
    show frameG (x :: y :: (t ++ m)) = none
    by_cases hx : x = 197
    · subst hx
      by_cases h80 : y ≤ 80
      · rw [decide_eq_true h80] at h
        have hlen : ¬ ((t.length : Int) < y + 4) := of_decide_eq_false (by simpa using h)
        rw [frameG_cons ⟨hy.1, h80⟩] at hf ⊢
        have hyl : y.toNat + 4 ≤ t.length := by omega
        rw [List.take_append_of_le_length (by omega), List.drop_append_of_le_length (by omega), List.take_append_of_le_length (by simp; omega)]
        by_cases he : (t.drop y.toNat).take 4 = fourV (sumV (197 :: y :: t.take y.toNat))
        · rw [if_pos ⟨hyl, he⟩] at hf; cases hf
        · rw [if_neg (fun hh => he hh.2)]
      · exact frameG_head (.inr (by omega))
    · exact frameG_head (.inl hx)
/-- A flow makes the same of bytes in parts. -/
theorem flowV_app : ∀ (n : Nat) (l m : List Int), l.length ≤ n → Bytes l → flowV (l ++ m) = ((flowV l).1 ++ (flowV ((flowV l).2.1 ++ m)).1, (flowV ((flowV l).2.1 ++ m)).2.1, (flowV l).2.2 + (flowV ((flowV l).2.1 ++ m)).2.2)
  | n, l, m, hn, hb => by
    by_cases h0 : l = []
    · subst h0; rw [flowV_nil]; simp
    · cases hm : mayV l with
      | true => rw [flowV_may hm]; simp
      | false =>
        have hpos : 0 < l.length := List.length_pos_iff.2 h0
        obtain ⟨n, rfl⟩ : ∃ k, n = k + 1 := ⟨n - 1, by omega⟩
        cases hf : frameG l with
        | none =>
          have e1 := flowV_none h0 hm hf
          have e2 := flowV_none (l := l ++ m) (by simp [h0]) (notmay_app m h0 hm) (none_app m h0 hb hm hf)
          rw [List.drop_append_of_le_length (by omega), flowV_app n (l.drop 1) m (by simp; omega) (hb.drop 1)] at e2
          rw [e2, e1]
          simp only [Prod.mk.injEq, true_and]
          omega
        | some r =>
          obtain ⟨b, k⟩ := r
          have hk := frameG_pos hf
          have e1 := flowV_some hm hf
          have e2 := flowV_some (notmay_app m h0 hm) (frameG_app (m := m) hf)
          rw [List.drop_append_of_le_length (by omega), flowV_app n (l.drop k) m (by simp; omega) (hb.drop k)] at e2
          rw [e2, e1]
          simp
/-- No byte goes astray. -/
theorem flowV_count : ∀ (n : Nat) (l : List Int), l.length ≤ n → Bytes l → (((flowV l).1.map fun b => b.length + 6).sum + (flowV l).2.1.length + (flowV l).2.2 = l.length) ∧ (∀ b ∈ (flowV l).1, Bytes b) ∧ Bytes (flowV l).2.1
  | n, l, hn, hb => by
    by_cases h0 : l = []
    · subst h0; rw [flowV_nil]; exact ⟨rfl, by simp, hb⟩
    · cases hm : mayV l with
      | true => rw [flowV_may hm]; exact ⟨by simp, by simp, hb⟩
      | false =>
        have hpos : 0 < l.length := List.length_pos_iff.2 h0
        obtain ⟨n, rfl⟩ : ∃ k, n = k + 1 := ⟨n - 1, by omega⟩
        cases hf : frameG l with
        | none =>
          rw [flowV_none h0 hm hf]
          obtain ⟨h1, h2, h3⟩ := flowV_count n (l.drop 1) (by simp; omega) (hb.drop 1)
          refine ⟨?_, h2, h3⟩
          rw [List.length_drop] at h1
          dsimp only
          omega
        | some r =>
          obtain ⟨b, k⟩ := r
          obtain ⟨h80, hk1, hk2, hk3⟩ := frameG_inv hb hf
          rw [flowV_some hm hf]
          obtain ⟨h1, h2, h3⟩ := flowV_count n (l.drop k) (by simp; omega) (hb.drop k)
          refine ⟨?_, ?_, h3⟩
          · rw [List.length_drop] at h1
            simp only [List.map_cons, List.sum_cons]
            omega
          · intro x hx
            rcases List.mem_cons.1 hx with rfl | hx
            · intro y hy
              have : y ∈ frameV x := by simp [frameV, bodyV, hy]
              rw [← hk2] at this
              exact hb y (List.mem_of_mem_take this)
            · exact h2 x hx
theorem flowV_frames : ∀ (bs : List (List Int)), (∀ b ∈ bs, b.length ≤ 80) → flowV (bs.map frameV).flatten = (bs, [], 0)
  | [], _ => rfl
  | b :: bs, h => by
    have hl := h b (by simp)
    rw [List.map_cons, List.flatten_cons, flowV_some (frame_notmay hl _) (frameG_put hl _)]
    rw [show (frameV b ++ (bs.map frameV).flatten).drop (b.length + 6) = (bs.map frameV).flatten by
      rw [← frameV_len b, List.drop_append_of_le_length (Nat.le_refl _), List.drop_length, List.nil_append]]
    rw [flowV_frames bs fun x hx => h x (by simp [hx])]
theorem flowV_noise : ∀ (noise m : List Int), (∀ b ∈ noise, b ≠ 197) → flowV (noise ++ m) = ((flowV m).1, (flowV m).2.1, noise.length + (flowV m).2.2)
  | [], m, _ => by simp
  | x :: noise, m, h => by
    have hx := h x (by simp)
    have hmay : mayV (x :: (noise ++ m)) = false := by
      cases hc : noise ++ m with
      | nil => show (x == 197) = false; simpa using hx
      | cons y t => show (x == 197 && _ && _) = false; rw [show (x == 197) = false by simpa using hx]; rfl
    have hf : frameG (x :: (noise ++ m)) = none := by
      cases hc : noise ++ m with
      | nil => rfl
      | cons y t => exact frameG_head (.inl hx)
    rw [List.cons_append, flowV_none (by simp) hmay hf]
    show ((flowV (noise ++ m)).1, (flowV (noise ++ m)).2.1, (flowV (noise ++ m)).2.2 + 1) = _
    rw [flowV_noise noise m fun b hb => h b (by simp [hb])]
    simp only [Prod.mk.injEq, true_and, List.length_cons]
    omega
theorem mayV_cut {body : List Int} (hl : body.length ≤ 80) {k : Nat} (h0 : 0 < k) (hk : k < (frameV body).length) : mayV ((frameV body).take k) = true := by
  have hlen := frameV_len body
  match k, h0 with
  | 1, _ => rfl
  | k + 2, _ =>
    show ((197 : Int) == 197 && decide ((body.length : Int) ≤ 80) && decide ((((body ++ fourV (sumV (bodyV body))).take k).length : Int) < (body.length : Int) + 4)) = true
    rw [decide_eq_true (by omega), decide_eq_true (by rw [List.length_take]; simp [fourV_len]; omega)]; rfl
end Go.Proofs.Ytmkgcdgpokidjaa
