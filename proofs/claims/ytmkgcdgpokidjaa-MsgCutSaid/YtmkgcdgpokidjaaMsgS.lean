/- Chapter 5: reading as the document reads, and what is known. -/
import Derived.Test.YtmkgcdgpokidjaaMsgR
set_option linter.unusedVariables false
namespace Go.Proofs.Ytmkgcdgpokidjaa
open Go.Eng

theorem set_frame (s k : Int) (l : List Int) {i : Nat} (hi : i < 6) (hl : l.length = i) (n : Int) : (cFrame.enc (mkF s (mkM k (l ++ [n])))).cells.toList = setL (cFrame.enc (mkF s (mkM k l))).cells.toList (2 + i * 1) [Value.int .i64 n] := by
  match i, hi, l, hl with
  | 0, _, [], _ => rfl
  | 1, _, [_], _ => rfl
  | 2, _, [_, _], _ => rfl
  | 3, _, [_, _, _], _ => rfl
  | 4, _, [_, _, _, _], _ => rfl
  | 5, _, [_, _, _, _, _], _ => rfl
theorem firstR_ok {bs : List Int} (h : (firstR bs).2.2 = true) : ∃ k : Nat, firstV bs = some ((firstR bs).1, k) ∧ (firstR bs).2.1 = k := by
  cases hv : firstV bs with
  | none => rw [firstR_none hv] at h; cases h
  | some x => obtain ⟨v, k⟩ := x; rw [firstR_some hv]; exact ⟨k, rfl, rfl⟩
theorem firstR_bad {bs : List Int} (h : (firstR bs).2.2 = false) : firstV bs = none := by
  cases hv : firstV bs with
  | none => rfl
  | some x => obtain ⟨v, k⟩ := x; rw [firstR_some hv] at h; cases h
theorem firstR_at {bs : List Int} (hb : Bytes bs) : ∃ k : Nat, (firstR bs).2.1 = k ∧ k ≤ bs.length := by
  cases hv : firstV bs with
  | none => rw [firstR_none hv]; exact ⟨0, rfl, Nat.zero_le _⟩
  | some x => obtain ⟨v, k⟩ := x; rw [firstR_some hv]; exact ⟨k, rfl, (firstV_inv hb hv).2.2.2.1⟩
theorem rread5_ok {p0 : Sl} {g h : Hp} {l : List Hp} {bs : List Int} (o : On h l) (hg : g ∈ l) (r : Row (cI .u8) g p0 bs) (hb : Bytes bs) (hcap : bs.length ≤ p0.cap) (hl : bs.length ≤ 1000000) {Q : Frame × Int → Hp → Prop} (hq : ∀ h', On h' l → Q (readR bs) h') :
    callP Try.prog 95 [Value.slice p0.a p0.len p0.cap] (tupC [cFrame, cI .i64]) h Q := by
  refine c95 ?_
  unfold F95
  have hpl := r.1
  refine rfirst_ok o hg r hb hcap hl fun h1 o1 => ?_
  obtain ⟨k, hk, hkl⟩ := firstR_at hb
  refine ⟨by rw [hk]; omega, by rw [hk]; omega, ?_⟩
  rw [hk, Int.toNat_natCast]
  have rk := row_from r hcap hkl
  refine rfirst_ok (p0 := ⟨cutA p0.a k p0.cap 1, p0.len - k, p0.cap - k⟩) o1 hg rk (hb.drop k) (by simp; omega) (by simp; omega) fun h2 o2 => ?_
  obtain ⟨k2, hk2, hkl2⟩ := firstR_at (hb.drop k)
  rw [List.length_drop] at hkl2
  have hbad : (firstR bs).2.2 = false ∨ (firstR (bs.drop k)).2.2 = false ∨ (firstR bs).1 < 0 ∨ manyV (firstR (bs.drop k)).1 < 0 → readV bs = none := by
    intro h
    cases e1 : (firstR bs).2.2 with
    | false => exact readV_0 (firstR_bad e1)
    | true =>
      obtain ⟨k', f1, f2⟩ := firstR_ok e1
      have : k' = k := by rw [hk] at f2; omega
      subst this
      cases e2 : (firstR (bs.drop k')).2.2 with
      | false => exact readV_1 f1 (firstR_bad e2)
      | true =>
        obtain ⟨k'', g1, g2⟩ := firstR_ok e2
        rw [readV_2 f1 g1, if_pos]
        rw [e1, e2] at h
        rcases h with h | h | h
        · cases h
        · cases h
        · exact h
  refine join_i (fun t h' => h' = h2 ∧ (t = true → readV bs = none) ∧ (t = false → (firstR bs).2.2 = true ∧ (firstR (bs.drop k)).2.2 = true ∧ 0 ≤ (firstR bs).1 ∧ 0 ≤ manyV (firstR (bs.drop k)).1)) ?_ fun J hJ => ?_
  · rintro t h3 ⟨rfl, hT, hF⟩
    refine cond_i (fun e => ?_) fun e => ?_
    · have := hq h3 o2
      rw [readR_none (hT e)] at this
      exact this
    · obtain ⟨e1, e2, h0, hn⟩ := hF e
      clear hT hF
      obtain ⟨k', f1, f2⟩ := firstR_ok e1
      have : k' = k := by rw [hk] at f2; omega
      subst this
      obtain ⟨k'', g1, g2⟩ := firstR_ok e2
      have : k'' = k2 := by rw [hk2] at g2; omega
      subst this
      have hread := readV_2 f1 g1
      rw [if_neg (by omega)] at hread
      generalize (firstR (bs.drop k')).1 = t at hread hn
      generalize (firstR bs).1 = s at hread h0
      have ew : IntKind.i64.wrap ((k' : Int) + (firstR (bs.drop k')).2.1) = ((k' + k'' : Nat) : Int) := by rw [hk2, w64 (by omega) (by omega)]; omega
      rw [ew]
      refine ⟨by omega, by omega, ?_⟩
      rw [Int.toNat_natCast]
      refine rmany_ok o2 fun h4 o4 => ?_
      have r2 := row_from r hcap (k := k' + k'') (by omega)
      rw [← List.drop_drop] at r2
      refine rget_ok (p0 := ⟨cutA p0.a (k' + k'') p0.cap 1, p0.len - (k' + k''), p0.cap - (k' + k'')⟩) o4 hg r2 ((hb.drop k').drop k'') (by simp; omega) (by simp; omega) (fun hnone h5 o5 => ?_) fun ns hns s5 d5 h5 o5 w5 => ?_
      · rw [hnone] at hread
        have := hq h5 o5
        rw [readR_none hread] at this
        exact cond_t rfl this
      · rw [hns] at hread
        have hr := manyV_range t
        have hlen : ns.length = (manyV t).toNat := by
          unfold getV at hns
          rw [if_neg (by omega)] at hns
          exact (getN_inv _ _ _ ((hb.drop k').drop k'') hns).1
        have hsl := w5.1
        refine cond_f rfl ?_
        refine loop_i (fun z h' => ∃ i : Nat, z = (mkF s (mkM t (ns.take i)), (i : Int)) ∧ i ≤ ns.length ∧ h' = h5) (fun z => ns.length - z.2.toNat) ⟨0, rfl, Nat.zero_le _, rfl⟩ ?_
        rintro J1 z h6 again ⟨i, rfl, hin, rfl⟩
        dsimp only
        refine cond_d (fun hlt => ?_) fun hge => ?_
        · have hi : i < ns.length := by omega
          have a0 : ns[i]? = some ns[i] := List.getElem?_eq_getElem hi
          refine idx_row w5.row (Int.natCast_nonneg i) (by omega) fun a ha => load_row w5.row (o5.get (i := 0) rfl) rfl ha (i := i) a0 (by simp) ?_
          refine ⟨Int.natCast_nonneg i, by omega, ?_⟩
          rw [Int.toNat_natCast]
          refine ⟨by simp; omega, _, set_frame s t (ns.take i) (by omega) (by rw [List.length_take]; omega) ns[i], ?_⟩
          refine again _ _ ⟨i + 1, ?_, by omega, rfl⟩ (by dsimp only; rw [w64n (by omega)]; omega)
          rw [w64n (by omega), List.take_add_one, a0]; rfl
        · have : i = ns.length := by omega
          subst this
          rw [List.take_length]
          have := hq h6 o5.tail
          rw [readR_some hread] at this
          exact this
  · refine cond_i (fun e => hJ _ _ ⟨rfl, fun _ => hbad (.inl (by simpa using e)), fun h => (by cases h)⟩) fun e1 => ?_
    refine cond_i (fun e => hJ _ _ ⟨rfl, fun _ => hbad (.inr (.inl (by simpa using e))), fun h => (by cases h)⟩) fun e2 => ?_
    refine cond_d (fun e => hJ _ _ ⟨rfl, fun _ => hbad (.inr (.inr (.inl e))), fun h => (by cases h)⟩) fun e3 => ?_
    have hmn := manyV_neg (firstR (bs.drop k)).1
    refine cond_d (fun e => hJ _ _ ⟨rfl, fun _ => hbad (.inr (.inr (.inr (hmn.2 (.inl e))))), fun h => (by cases h)⟩) fun e4 => ?_
    refine hJ _ _ ⟨rfl, fun h => hbad (.inr (.inr (.inr (hmn.2 (.inr (of_decide_eq_true h)))))), fun h => ⟨by simpa using e1, by simpa using e2, by omega, ?_⟩⟩
    have h := of_decide_eq_false h
    omega

theorem getN_eq : ∀ (ns : List Int) (n : Nat) (l : List Int), (∀ x ∈ ns, I64 x) → getN n (putV ns) = some l → l = ns ∧ n = ns.length
  | [], 0, l, _, h => by
    have h : some [] = some l := h
    cases h; exact ⟨rfl, rfl⟩
  | [], n + 1, l, _, h => by
    rw [getN_succ_none rfl] at h; cases h
  | a :: t, 0, l, hn, h => by
    have hp := one3_pos a
    rw [putV_cons] at h
    cases hc : one3 a ++ putV t with
    | nil => rw [List.append_eq_nil_iff] at hc; rw [hc.1] at hp; cases hp
    | cons x y => rw [hc] at h; cases h
  | a :: t, n + 1, l, hn, h => by
    have h1 := firstV_one (hn a (by simp)) (putV t)
    rw [putV_cons, getN_succ_some h1, List.drop_append_of_le_length (Nat.le_refl _), List.drop_length, List.nil_append, Option.map_eq_some_iff] at h
    obtain ⟨l', h2, rfl⟩ := h
    obtain ⟨rfl, rfl⟩ := getN_eq t n l' (fun x hx => hn x (by simp [hx])) h2
    exact ⟨rfl, rfl⟩
theorem readV_put {s k : Int} {ns : List Int} (h : ∀ x ∈ s :: k :: ns, I64 x) : readV (putV (s :: k :: ns)) = if 0 ≤ s ∧ (ns.length : Int) = manyV k then some (mkF s (mkM k ns)) else none := by
  have h1 := firstV_one (h s (by simp)) (putV (k :: ns))
  have h2 := firstV_one (h k (by simp)) (putV ns)
  have e1 : (putV (s :: k :: ns)).drop (one3 s).length = putV (k :: ns) := by rw [putV_cons, List.drop_append_of_le_length (Nat.le_refl _), List.drop_length, List.nil_append]
  have e2 : (putV (k :: ns)).drop (one3 k).length = putV ns := by rw [putV_cons, List.drop_append_of_le_length (Nat.le_refl _), List.drop_length, List.nil_append]
  have hns : ∀ x ∈ ns, I64 x := fun x hx => h x (by simp [hx])
  rw [← putV_cons] at h1 h2
  rw [readV_2 h1 (by rw [e1]; exact h2), e1, e2]
  by_cases hb : s < 0 ∨ manyV k < 0
  · rw [if_pos hb, if_neg (by omega)]
  · rw [if_neg hb]
    by_cases hl : (ns.length : Int) = manyV k
    · rw [if_pos ⟨by omega, hl⟩, getV_put hns hl.symm]; rfl
    · rw [if_neg (fun hh => hl hh.2)]
      cases hg : getV (putV ns) (manyV k) with
      | none => rfl
      | some l =>
        unfold getV at hg
        rw [if_neg (by omega)] at hg
        obtain ⟨_, e⟩ := getN_eq ns _ l hns hg
        omega
theorem readV_bytes {x : Frame} (hw : wfF x) (hk : okF x = true) : readV (bytesF x) = some x := by
  unfold bytesF
  rw [hk, cond_true]
  have hk' := hk
  unfold okF at hk
  rw [Bool.and_eq_true, decide_eq_true_eq] at hk
  obtain ⟨h0, h1⟩ := isV_inv hk.1
  have h0 : 0 ≤ manyV x.Msg_Kind := h0
  have h6 := manyV_range x.Msg_Kind
  unfold numsV
  rw [readV_put (wfF_nums hw), if_pos ⟨hk.2, by rw [List.length_take, fs_len]; omega⟩]
  have h1 : mkM x.Msg_Kind ((fs (fmsg x)).take (manyV x.Msg_Kind).toNat) = fmsg x := h1
  rw [h1]; rfl
theorem getN_ext : ∀ (n : Nat) (xs ys l m : List Int), Bytes xs → getN n xs = some l → getN n (xs ++ ys) = some m → ys = []
  | 0, [], [], _, _, _, _, _ => rfl
  | 0, [], _ :: _, _, _, _, _, h => by cases h
  | 0, _ :: _, _, _, _, _, h, _ => by cases h
  | n + 1, xs, ys, l, m, hb, h1, h2 => by
    cases hf : firstV xs with
    | none => rw [getN_succ_none hf] at h1; cases h1
    | some x =>
      obtain ⟨v, k⟩ := x
      obtain ⟨_, _, _, hk, _⟩ := firstV_inv hb hf
      rw [getN_succ_some hf, Option.map_eq_some_iff] at h1
      rw [getN_succ_some (firstV_app hb hf), Option.map_eq_some_iff, List.drop_append_of_le_length hk] at h2
      obtain ⟨l', a1, _⟩ := h1
      obtain ⟨m', b1, _⟩ := h2
      exact getN_ext n _ ys l' m' (hb.drop k) a1 b1
/-- No frame's bytes go on to be another's. -/
theorem readV_ext {xs ys : List Int} {x y : Frame} (hb : Bytes xs) (h1 : readV xs = some x) (h2 : readV (xs ++ ys) = some y) : ys = [] := by
  cases hf : firstV xs with
  | none => rw [readV_0 hf] at h1; cases h1
  | some p =>
    obtain ⟨s, k⟩ := p
    obtain ⟨_, _, _, hk, _⟩ := firstV_inv hb hf
    cases hf2 : firstV (xs.drop k) with
    | none => rw [readV_1 hf hf2] at h1; cases h1
    | some q =>
      obtain ⟨t, k2⟩ := q
      obtain ⟨_, _, _, hk2, _⟩ := firstV_inv (hb.drop k) hf2
      have g1 := firstV_app (ys := ys) hb hf
      have g2 := firstV_app (ys := ys) (hb.drop k) hf2
      rw [← List.drop_append_of_le_length hk] at g2
      rw [readV_2 hf hf2] at h1
      rw [readV_2 g1 g2, List.drop_append_of_le_length hk, List.drop_append_of_le_length hk2] at h2
      by_cases hb2 : s < 0 ∨ manyV t < 0
      · rw [if_pos hb2] at h1; cases h1
      · rw [if_neg hb2, Option.map_eq_some_iff] at h1 h2
        obtain ⟨l, a1, _⟩ := h1
        obtain ⟨m, b1, _⟩ := h2
        unfold getV at a1 b1
        rw [if_neg (by omega)] at a1 b1
        exact getN_ext _ _ ys l m ((hb.drop k).drop k2) a1 b1

theorem two5 : bytesF ⟨0, 2, 0, 0, 0, 0, 0, 0⟩ = [0, 4] := by
  have h1 : one3 0 = [0] := by unfold one3; rw [show (zigV 0).toNat = 0 from rfl, grp_lt (by decide)]; rfl
  have h2 : one3 2 = [4] := by unfold one3; rw [show (zigV 2).toNat = 4 from rfl, grp_lt (by decide)]; rfl
  have h3 : bytesF ⟨0, 2, 0, 0, 0, 0, 0, 0⟩ = one3 0 ++ (one3 2 ++ []) := rfl
  rw [h3, h1, h2]; rfl
theorem two5_wf : wfF ⟨0, 2, 0, 0, 0, 0, 0, 0⟩ := by
  intro n hn
  simp only [fs, fmsg, List.mem_cons, List.not_mem_nil, or_false] at hn
  unfold I64
  rcases hn with rfl | rfl | rfl | rfl | rfl | rfl | rfl | rfl <;> omega
theorem known5_ok {h : Hp} {l : List Hp} (o : On h l) {Q : Bool → Hp → Prop} (hq : ∀ h', On h' l → Q true h') : callP Try.prog 93 [] cB h Q := by
  refine c93 ?_
  unfold F93
  refine alloc_ob o fun k1 h1 o1 => ?_
  have r1 : Row (cI .u8) (ob k1 [Value.int .u8 0, Value.int .u8 4] 5) ⟨some ⟨k1, 0, none⟩, 2, 2⟩ [0, 4] := row_ob rfl rfl
  have hby : Bytes [0, 4] := by rw [← two5]; exact bytesF_byte _
  refine read5_ok o1 (List.mem_cons_self ..) r1 hby (Nat.le_refl 2) (by simp) fun h2 o2 => ?_
  have e : readR [0, 4] = (⟨0, 2, 0, 0, 0, 0, 0, 0⟩, 0) := by rw [← two5, readR_some (readV_bytes two5_wf rfl)]
  rw [e]
  refine bytes5_ok (x := ⟨0, 2, 0, 0, 0, 0, 0, 0⟩) o2 two5_wf fun s3 d3 h3 o3 w3 => ?_
  rw [two5] at w3
  refine str_row w3.row (o3.get (i := 0) rfl) (cond_t (by decide +kernel) (cond_t rfl (cond_t rfl (many_ok ?_))))
  exact hq _ o3.tail.tail
end Go.Proofs.Ytmkgcdgpokidjaa
