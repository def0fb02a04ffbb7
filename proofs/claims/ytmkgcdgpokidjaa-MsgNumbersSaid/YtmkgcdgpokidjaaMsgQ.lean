/- Chapter 5: what is a message, and its bytes. -/
import Derived.Test.YtmkgcdgpokidjaaMsgP
set_option linter.unusedVariables false
namespace Go.Proofs.Ytmkgcdgpokidjaa
open Go.Eng

theorem isV_neg {m : Msg} (h : manyV m.Kind < 0) : isV m = false := by
  unfold isV; rw [decide_eq_false (by omega)]; rfl
theorem isV_bad {m : Msg} {i : Nat} {x : Int} (hi : (manyV m.Kind).toNat ≤ i) (hx : (fs m)[i]? = some x) (h0 : x ≠ 0) : isV m = false := by
  unfold isV
  rw [Bool.and_eq_false_iff]
  right
  rw [List.all_eq_false]
  refine ⟨x, ?_, by simpa using h0⟩
  refine List.mem_of_getElem? (i := i - (manyV m.Kind).toNat) ?_
  rw [List.getElem?_drop, show (manyV m.Kind).toNat + (i - (manyV m.Kind).toNat) = i by omega]
  exact hx
theorem isV_good {m : Msg} (h0 : 0 ≤ manyV m.Kind) (h : ∀ (i : Nat) (x : Int), (manyV m.Kind).toNat ≤ i → i < 6 → (fs m)[i]? = some x → x = 0) : isV m = true := by
  unfold isV
  rw [decide_eq_true h0, Bool.true_and, List.all_eq_true]
  intro x hx
  obtain ⟨j, hj⟩ := List.getElem?_of_mem hx
  rw [List.getElem?_drop] at hj
  have hlt := (List.getElem?_eq_some_iff.1 hj).1
  have := h _ x (Nat.le_add_right _ _) hlt hj
  simpa using this
theorem is_ok {m : Msg} {h : Hp} {l : List Hp} (o : On h l) {Q : Bool → Hp → Prop} (hq : ∀ h', On h' l → Q (isV m) h') : callP Try.prog 91 [cMsg.enc m] cB h Q := by
  refine c91 ?_
  unfold F91
  refine alloc_ob o fun k1 h1 o1 => ?_
  have hq := hq h1 o1.tail
  refine load_ob (x := m.Kind) o1 0 rfl rfl ?_
  refine many_ok ?_
  have hr := manyV_range m.Kind
  refine cond_d (fun hn => by rw [isV_neg hn] at hq; exact hq) fun hn => ?_
  generalize hn1 : manyV m.Kind = n at hn hr
  obtain ⟨n, rfl⟩ : ∃ k : Nat, n = k := ⟨n.toNat, by omega⟩
  refine ⟨by omega, by omega, ?_⟩
  rw [Int.toNat_natCast]
  have r0 : Row (cI .i64) (ob k1 [Value.int .i64 m.Kind, Value.int .i64 m.F_0, Value.int .i64 m.F_1, Value.int .i64 m.F_2, Value.int .i64 m.F_3, Value.int .i64 m.F_4, Value.int .i64 m.F_5] 46) ⟨some ⟨k1, 1, none⟩, 6, 6⟩ (fs m) := ⟨rfl, ob_rds rfl⟩
  have rc := r0.cut (k := n) (m := 6) (cap' := 6 - n) (by omega) (by rw [fs_len]; omega) (by rw [fs_len]; exact Nat.le_refl 6) rfl (z := 1) rfl
  rw [List.take_of_length_le (by rw [List.length_drop, fs_len]; omega)] at rc
  refine loop_i (fun z h' => ∃ i : Nat, z = i ∧ i ≤ 6 - n ∧ (∀ (j : Nat) (x : Int), n ≤ j → j < n + i → (fs m)[j]? = some x → x = 0) ∧ h' = h1) (fun z => 6 - n - z.toNat) ⟨0, rfl, Nat.zero_le _, fun j x h1 h2 => by omega, rfl⟩ ?_
  rintro J z h' again ⟨i, rfl, hle, hz, rfl⟩
  refine cond_d (fun hlt => ?_) fun hge => ?_
  · have hi : n + i < 6 := by omega
    have hx : (fs m)[n + i]? = some (fs m)[n + i] := List.getElem?_eq_getElem (by rw [fs_len]; exact hi)
    have hx2 : ((fs m).drop n)[i]? = some (fs m)[n + i] := by rw [List.getElem?_drop]; exact hx
    refine idx_row rc (Int.natCast_nonneg i) (by rw [List.length_drop, fs_len]; omega) fun a ha => load_row rc (o1.get (i := 0) rfl) rfl ha (i := i) hx2 (by simp) ?_
    refine cond_i (fun hne => ?_) fun heq => ?_
    · rw [isV_bad (i := n + i) (by rw [hn1]; omega) hx (by simpa using hne)] at hq
      exact hq
    · refine again _ _ ⟨i + 1, w64n (by omega), by omega, fun j x h1 h2 h3 => ?_, rfl⟩ (by rw [w64n (by omega)]; omega)
      by_cases hj : j < n + i
      · exact hz j x h1 hj h3
      · rw [show j = n + i by omega, hx] at h3
        cases h3
        simpa using heq
  · have : isV m = true := isV_good (by rw [hn1]; omega) fun i x h1 h2 h3 => hz i x (by rw [hn1] at h1; omega) (by omega) h3
    rw [this] at hq
    exact hq
theorem ris_ok {m : Msg} {h : Hp} {l : List Hp} (o : On h l) {Q : Bool → Hp → Prop} (hq : ∀ h', On h' l → Q (isV m) h') : callP Try.prog 92 [cMsg.enc m] cB h Q := by
  refine c92 ?_
  unfold F92
  refine rmany_ok o fun h1 o1 => ?_
  have hq := hq h1 o1
  have hr := manyV_range m.Kind
  have em : maxI (manyV m.Kind) 0 = ((manyV m.Kind).toNat : Int) := by unfold maxI; split <;> omega
  rw [em]
  refine loop_i (fun z h' => ∃ i : Nat, z = i ∧ (manyV m.Kind).toNat ≤ i ∧ i ≤ 6 ∧ (∀ (j : Nat) (x : Int), (manyV m.Kind).toNat ≤ j → j < i → (fs m)[j]? = some x → x = 0) ∧ h' = h1) (fun z => 6 - z.toNat) ⟨(manyV m.Kind).toNat, rfl, Nat.le_refl _, by omega, fun j x h1 h2 => by omega, rfl⟩ ?_
  rintro J z h' again ⟨i, rfl, hni, hle, hz, rfl⟩
  refine cond_d (fun hlt => ?_) fun hge => ?_
  · have hi : i < 6 := by omega
    obtain ⟨x, hx, hc⟩ := msg_at m hi
    refine ⟨Int.natCast_nonneg i, hlt, loadL_i (n := x) (by rw [Int.toNat_natCast]; exact hc) ?_⟩
    refine cond_i (fun hne => ?_) fun heq => ?_
    · rw [isV_bad hni hx (by simpa using hne)] at hq
      exact hq
    · refine again _ _ ⟨i + 1, w64n (by omega), by omega, by omega, fun j y h1 h2 h3 => ?_, rfl⟩ (by rw [w64n (by omega)]; omega)
      by_cases hj : j < i
      · exact hz j y h1 hj h3
      · rw [show j = i by omega, hx] at h3
        cases h3
        simpa using heq
  · by_cases h0 : 0 ≤ manyV m.Kind
    · rw [isV_good h0 fun i x h1 h2 h3 => hz i x h1 (by omega) h3] at hq
      rw [show decide (manyV m.Kind ≥ 0) = true from decide_eq_true h0]
      exact hq
    · rw [isV_neg (by omega)] at hq
      rw [show decide (manyV m.Kind ≥ 0) = false from decide_eq_false (by omega)]
      exact hq

def fmsg (x : Frame) : Msg := ⟨x.Msg_Kind, x.Msg_F_0, x.Msg_F_1, x.Msg_F_2, x.Msg_F_3, x.Msg_F_4, x.Msg_F_5⟩
def okF (x : Frame) : Bool := isV (fmsg x) && decide (0 ≤ x.Seq)
def numsV (x : Frame) : List Int := x.Seq :: x.Msg_Kind :: (fs (fmsg x)).take (manyV x.Msg_Kind).toNat
/-- A frame's bytes; none: it is no good. -/
def bytesF (x : Frame) : List Int := bif okF x then putV (numsV x) else []
def wfF (x : Frame) : Prop := ∀ n ∈ x.Seq :: x.Msg_Kind :: fs (fmsg x), I64 n
theorem wfF_nums {x : Frame} (h : wfF x) : ∀ n ∈ numsV x, I64 n := by
  intro n hn
  refine h n ?_
  unfold numsV at hn
  rcases List.mem_cons.1 hn with rfl | hn
  · simp
  · rcases List.mem_cons.1 hn with rfl | hn
    · simp
    · exact List.mem_cons_of_mem _ (List.mem_cons_of_mem _ (List.mem_of_mem_take hn))
theorem numsV_len (x : Frame) : (numsV x).length ≤ 8 := by
  unfold numsV
  simp only [List.length_cons, List.length_take]
  have := fs_len (fmsg x)
  omega
theorem bytesF_len {x : Frame} (h : wfF x) : (bytesF x).length ≤ 80 := by
  unfold bytesF
  cases okF x with
  | false => simp
  | true =>
    have := putV_len (numsV x) (wfF_nums h)
    have := numsV_len x
    simp only [cond_true]; omega
theorem bytesF_byte (x : Frame) : Bytes (bytesF x) := by
  unfold bytesF
  cases okF x with
  | false => intro b hb; cases hb
  | true => exact putV_byte _
theorem one3_pos (n : Int) : 0 < (one3 n).length := List.length_pos_iff.2 (grp_ne _)
theorem bytesF_zero {x : Frame} : (bytesF x).length = 0 ↔ okF x = false := by
  unfold bytesF
  cases okF x with
  | false => simp
  | true =>
    have := one3_pos x.Seq
    simp only [cond_true, numsV, putV_cons, List.length_append]
    refine ⟨fun h => by omega, fun h => by cases h⟩
theorem bytes5_ok {x : Frame} {h : Hp} {l : List Hp} (o : On h l) (hw : wfF x) {Q : Sl → Hp → Prop} (hq : ∀ s d h', On h' (d :: l) → Own (cI .u8) d s (bytesF x) → Q s h') : callP Try.prog 89 [cFrame.enc x] cSl h Q := by
  refine c89 ?_
  unfold F89
  refine alloc_ob o fun k1 h1 o1 => ?_
  refine join_i (fun t h' => On h' (ob k1 (cFrame.enc x).cells.toList 48 :: l) ∧ t = !okF x) ?_ fun J hJ => ?_
  · rintro t h2 ⟨o2, rfl⟩
    refine cond_i (fun e => ?_) fun e => ?_
    · have ek : okF x = false := by simpa using e
      have := hq ⟨none, 0, 0⟩ Hp.emp h2 o2.tail.emp
      unfold bytesF at this
      rw [ek] at this
      exact this (Own.nil _)
    · have ek : okF x = true := by simpa using e
      have hn := (isV_inv (m := fmsg x) (by unfold okF at ek; rw [Bool.and_eq_true] at ek; exact ek.1)).1
      have hr := manyV_range x.Msg_Kind
      have hn : 0 ≤ manyV x.Msg_Kind := hn
      refine load_ob (x := x.Seq) o2 0 rfl rfl ?_
      refine load_ob (x := x.Msg_Kind) o2 0 rfl rfl ?_
      refine load_ob (x := x.Msg_Kind) o2 0 rfl rfl ?_
      refine many_ok ⟨hn, by omega, ?_⟩
      refine alloc_ob o2 fun k4 h3 o3 => ?_
      have w0 : Own (cI .i64) (ob k4 [Value.int .i64 x.Seq, Value.int .i64 x.Msg_Kind] 2) ⟨some ⟨k4, 0, none⟩, 2, 2⟩ [x.Seq, x.Msg_Kind] := own_ob (cd := cI .i64) (xs := [x.Seq, x.Msg_Kind]) (rest := []) rfl rfl rfl
      have r0 : Row (cI .i64) (ob k1 (cFrame.enc x).cells.toList 48) ⟨some ⟨k1, 2, none⟩, 6, 6⟩ (fs (fmsg x)) := ⟨rfl, ob_rds rfl⟩
      have rc := r0.cut (k := 0) (m := (manyV x.Msg_Kind).toNat) (cap' := 6) (by omega) (by rw [fs_len]; omega) (by rw [fs_len]; exact Nat.le_refl _) rfl (z := 1) rfl
      rw [List.drop_zero, Nat.sub_zero] at rc
      refine append_own (g := ob k1 (cFrame.enc x).cells.toList 48) (s := ⟨some ⟨k4, 0, none⟩, 2, 2⟩) (t := ⟨cutA (some ⟨k1, 2, none⟩) 0 6 1, (manyV x.Msg_Kind).toNat - 0, 6⟩) o3 rfl w0 (by decide) rc (o3.mem (by simp)) (by unfold roomP; rw [List.length_take, fs_len]; simp; omega) fun d5 p5 n5 m5 h5 o5 w5 => ?_
      have w5 : Own (cI .i64) d5 ⟨p5, n5, m5⟩ (numsV x) := w5
      have hnl := numsV_len x
      refine put3_ok (p0 := ⟨p5, n5, m5⟩) o5 (List.mem_cons_self ..) w5.row (wfF_nums hw) (by omega) fun s6 d6 h6 o6 w6 => ?_
      refine hq s6 d6 h6 (o6.sublist (((List.Sublist.refl l).cons _ |>.cons _).cons_cons d6)) ?_
      unfold bytesF
      rw [ek]
      exact w6
  · refine load_ob (x := fmsg x) o1 0 rfl rfl ?_
    refine is_ok (m := fmsg x) o1 fun h2 o2 => ?_
    refine cond_i (fun e => hJ _ _ ⟨o2, ?_⟩) fun e => ?_
    · unfold okF; rw [show isV (fmsg x) = false by simpa using e]; rfl
    · refine load_ob (x := x.Seq) o2 0 rfl rfl (hJ _ _ ⟨o2, ?_⟩)
      unfold okF
      rw [show isV (fmsg x) = true by simpa using e, Bool.true_and, Bool.eq_iff_iff]
      simp
theorem rbytes5_ok {x : Frame} {h : Hp} {l : List Hp} (o : On h l) (hw : wfF x) {Q : Sl → Hp → Prop} (hq : ∀ s d h', On h' (d :: l) → Own (cI .u8) d s (bytesF x) → Q s h') : callP Try.prog 90 [cFrame.enc x] cSl h Q := by
  refine c90 ?_
  unfold F90
  refine join_i (fun t h' => On h' l ∧ t = !okF x) ?_ fun J hJ => ?_
  · rintro t h2 ⟨o2, rfl⟩
    refine cond_i (fun e => ?_) fun e => ?_
    · have ek : okF x = false := by simpa using e
      have := hq ⟨none, 0, 0⟩ Hp.emp h2 o2.emp
      unfold bytesF at this
      rw [ek] at this
      exact this (Own.nil _)
    · have ek : okF x = true := by simpa using e
      have hn := (isV_inv (m := fmsg x) (by unfold okF at ek; rw [Bool.and_eq_true] at ek; exact ek.1)).1
      have hr := manyV_range x.Msg_Kind
      have hn : 0 ≤ manyV x.Msg_Kind := hn
      refine alloc_ob o2 fun k4 h3 o3 => ?_
      have w0 : Own (cI .i64) (ob k4 [Value.int .i64 x.Seq, Value.int .i64 x.Msg_Kind] 2) ⟨some ⟨k4, 0, none⟩, 2, 2⟩ [x.Seq, x.Msg_Kind] := own_ob (cd := cI .i64) (xs := [x.Seq, x.Msg_Kind]) (rest := []) rfl rfl rfl
      refine loop_i (fun z h' => ∃ (i : Nat) (d : Hp), z.2 = (i : Int) ∧ (i : Int) ≤ manyV x.Msg_Kind ∧ On h' (d :: l) ∧ Own (cI .i64) d z.1 (x.Seq :: x.Msg_Kind :: (fs (fmsg x)).take i)) (fun z => 6 - z.2.toNat) ⟨0, _, rfl, hn, o3, w0⟩ ?_
      rintro J ⟨z, zi⟩ h4 again ⟨i, d, hzi, hle, o4, w4⟩
      dsimp only at hzi w4
      subst hzi
      refine rmany_ok o4 fun h5 o5 => ?_
      dsimp only
      refine cond_d (fun hlt => ?_) fun hge => ?_
      · have hi : i < 6 := by omega
        obtain ⟨y, hy, hc⟩ := msg_at (fmsg x) hi
        refine ⟨Int.natCast_nonneg i, by omega, loadL_i (n := y) (by rw [Int.toNat_natCast, show 2 + i * 1 = (1 + i * 1) + 1 by omega]; exact hc) ?_⟩
        refine alloc_ob o5 fun k6 h6 o6 => ?_
        have r6 : Row (cI .i64) (ob k6 [Value.int .i64 y] 2) ⟨some ⟨k6, 0, none⟩, 1, 1⟩ [y] := row_ob rfl rfl
        refine append_own (g := ob k6 [Value.int .i64 y] 2) (s := z) (t := ⟨some ⟨k6, 0, none⟩, 1, 1⟩) o6.swap rfl w4 (by decide) r6 (o6.mem (by simp)) (by unfold roomP; simp; omega) fun d7 p7 n7 m7 h7 o7 w7 => ?_
        refine again _ _ ⟨i + 1, d7, w64n (by omega), by omega, o7.sublist (((List.Sublist.refl l).cons _).cons_cons d7), ?_⟩ (by dsimp only; rw [w64n (by omega)]; omega)
        rw [List.take_add_one, hy]
        exact w7
      · have : i = (manyV x.Msg_Kind).toNat := by omega
        subst this
        have w4 : Own (cI .i64) d z (numsV x) := w4
        have hnl := numsV_len x
        refine rput3_ok o5 (List.mem_cons_self ..) w4.row (wfF_nums hw) (by omega) fun s6 d6 h6 o6 w6 => ?_
        refine hq s6 d6 h6 (o6.sublist (((List.Sublist.refl l).cons _).cons_cons d6)) ?_
        unfold bytesF
        rw [ek]
        exact w6
  · refine cond_d (fun h0 => hJ _ _ ⟨o, ?_⟩) fun h0 => ?_
    · unfold okF; rw [decide_eq_false (p := 0 ≤ x.Seq) (by omega), Bool.and_false]; rfl
    · refine ris_ok (m := fmsg x) o fun h2 o2 => hJ _ _ ⟨o2, ?_⟩
      unfold okF; rw [decide_eq_true (p := 0 ≤ x.Seq) (by omega), Bool.and_true]
end Go.Proofs.Ytmkgcdgpokidjaa
