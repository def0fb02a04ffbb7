import Derived.Test.YtmkgcdgpokidjaaGreatXPack
import Derived.Test.YtmkgcdgpokidjaaGreatKeepA
import Derived.Test.YtmkgcdgpokidjaaGreatFB
import Derived.Test.YtmkgcdgpokidjaaGreatXFrame
import GoSem.ClaimWide
set_option linter.unusedVariables false
/- Chapter 5: messages: kinds and fields. -/
namespace Go.Proofs.YtmkgcdgpokidjaaGreat
open Go.Eng

/-- How many fields the document gives a kind; -1: no such kind. -/
def manyL : List Int := [-1, 1, 0, 0, 1, 0, 5, 1, 3, 5, 3, 1, 1, 1, 1, 1, 1, 2, 2, 2, 4, 2, 5, 4, 3, 2, 2, 1, 6]
def manyV (k : Int) : Int := if k < 0 then -1 else manyL.getD k.toNat (-1)
theorem kinds {k : Int} {P : Int → Prop} (h : ∀ n : Nat, n < 29 → P n) (h1 : 0 ≤ k) (h2 : k < 29) : P k := by
  obtain ⟨n, rfl⟩ : ∃ n : Nat, k = n := ⟨k.toNat, by omega⟩
  exact h n (by omega)
theorem manyV_out {k : Int} (h : k < 0 ∨ 29 ≤ k) : manyV k = -1 := by
  unfold manyV
  by_cases h0 : k < 0
  · rw [if_pos h0]
  · rw [if_neg h0, List.getD_eq_getElem?_getD, List.getElem?_eq_none (by simp [manyL]; omega)]; rfl
theorem manyV_range (k : Int) : -1 ≤ manyV k ∧ manyV k ≤ 6 := by
  by_cases h : k < 0 ∨ 29 ≤ k
  · rw [manyV_out h]; omega
  · have key : ∀ n : Nat, n < 29 → -1 ≤ manyV n ∧ manyV n ≤ 6 := by decide +kernel
    exact kinds (P := fun k => -1 ≤ manyV k ∧ manyV k ≤ 6) key (by omega) (by omega)
theorem manyV_neg (k : Int) : manyV k < 0 ↔ k < 1 ∨ 28 < k := by
  by_cases h : k < 0 ∨ 29 ≤ k
  · rw [manyV_out h]; omega
  · have key : ∀ n : Nat, n < 29 → (manyV n < 0 ↔ (n : Int) < 1 ∨ 28 < (n : Int)) := by decide +kernel
    exact kinds (P := fun k => manyV k < 0 ↔ k < 1 ∨ 28 < k) key (by omega) (by omega)
theorem many_f {k : Int} {h : Hp} {Q : Int → Hp → Prop} (hq : Q (manyV k) h) : F49 k h Q := by
  by_cases hk : k < 0 ∨ 29 ≤ k
  · have hne : ∀ c : Int, 0 ≤ c → c < 29 → (k == c) = false := by
      intro c h1 h2
      simp only [beq_eq_false_iff_ne, ne_eq]
      omega
    rw [manyV_out hk] at hq
    unfold F49 joinP
    simp only [hne 1 (by decide) (by decide), hne 2 (by decide) (by decide), hne 3 (by decide) (by decide), hne 4 (by decide) (by decide), hne 5 (by decide) (by decide), hne 6 (by decide) (by decide), hne 7 (by decide) (by decide), hne 8 (by decide) (by decide), hne 9 (by decide) (by decide), hne 10 (by decide) (by decide), hne 11 (by decide) (by decide), hne 12 (by decide) (by decide), hne 13 (by decide) (by decide), hne 14 (by decide) (by decide), hne 15 (by decide) (by decide), hne 16 (by decide) (by decide), hne 17 (by decide) (by decide), hne 18 (by decide) (by decide), hne 19 (by decide) (by decide), hne 20 (by decide) (by decide), hne 21 (by decide) (by decide), hne 22 (by decide) (by decide), hne 23 (by decide) (by decide), hne 24 (by decide) (by decide), hne 25 (by decide) (by decide), hne 26 (by decide) (by decide), hne 27 (by decide) (by decide), hne 28 (by decide) (by decide)]
    exact hq
  · have : k = 0 ∨ k = 1 ∨ k = 2 ∨ k = 3 ∨ k = 4 ∨ k = 5 ∨ k = 6 ∨ k = 7 ∨ k = 8 ∨ k = 9 ∨ k = 10 ∨ k = 11 ∨ k = 12 ∨ k = 13 ∨ k = 14 ∨ k = 15 ∨ k = 16 ∨ k = 17 ∨ k = 18 ∨ k = 19 ∨ k = 20 ∨ k = 21 ∨ k = 22 ∨ k = 23 ∨ k = 24 ∨ k = 25 ∨ k = 26 ∨ k = 27 ∨ k = 28 := by omega
    rcases this with rfl | rfl | rfl | rfl | rfl | rfl | rfl | rfl | rfl | rfl | rfl | rfl | rfl | rfl | rfl | rfl | rfl | rfl | rfl | rfl | rfl | rfl | rfl | rfl | rfl | rfl | rfl | rfl | rfl <;> exact hq
theorem many_ok {k : Int} {K : Int → Prop} (hk : K (manyV k)) : pureP Tryz.prog 49 [Value.int .i64 k] (cI .i64) K := by
  refine ⟨manyV k, ?_, hk⟩
  have := c49 (p0 := k) (h := Hp.emp) (Q := fun x h' => x = manyV k ∧ h' = Hp.emp) (many_f ⟨rfl, rfl⟩)
  exact Spec.mono this fun v h' ⟨x, e, ex, eh⟩ => ⟨by rw [e, ex], eh⟩
theorem rmany_ok {k : Int} {h : Hp} {l : List Hp} (o : On h l) {Q : Int → Hp → Prop} (hq : ∀ h', On h' l → Q (manyV k) h') : callP Tryz.prog 60 [Value.int .i64 k] (cI .i64) h Q := by
  refine c60 ?_
  unfold F60
  refine alloc_ob o fun k1 h1 o1 => ?_
  have r1 : Row (cI .i64) (ob k1 _ 3) ⟨some ⟨k1, 0, none⟩, 29, 29⟩ manyL := row_ob rfl rfl
  refine join_i (fun t h' => h' = h1 ∧ t = decide (k < 0 ∨ 29 ≤ k)) ?_ fun J hJ => ?_
  · rintro t h2 ⟨rfl, rfl⟩
    refine cond_d (fun hk => ?_) fun hk => ?_
    · have := hq _ o1.tail
      rw [manyV_out hk] at this
      exact this
    · obtain ⟨n, rfl⟩ : ∃ n : Nat, k = n := ⟨k.toNat, by omega⟩
      have hn : n < 29 := by omega
      have hl : n < manyL.length := hn
      refine idx_row r1 (Int.natCast_nonneg n) (by simp [manyL]; omega) fun a ha => load_row r1 (o1.get (i := 0) rfl) rfl ha (i := n) (List.getElem?_eq_getElem hl) (by simp) ?_
      have := hq _ o1.tail
      have e : manyV n = manyL[n] := by
        unfold manyV
        rw [if_neg (by omega), Int.toNat_natCast, List.getD_eq_getElem?_getD, List.getElem?_eq_getElem hl]; rfl
      rw [e] at this
      exact this
  · refine cond_d (fun h0 => hJ _ _ ⟨rfl, by simp; omega⟩) fun h0 => hJ _ _ ⟨rfl, decide_eq_decide.2 (by omega)⟩
def fs (m : Msg) : List Int := [m.F_0, m.F_1, m.F_2, m.F_3, m.F_4, m.F_5]
def mkM (k : Int) (l : List Int) : Msg := ⟨k, l.getD 0 0, l.getD 1 0, l.getD 2 0, l.getD 3 0, l.getD 4 0, l.getD 5 0⟩
theorem mkM_fs (m : Msg) : mkM m.Kind (fs m) = m := rfl
theorem fs_len (m : Msg) : (fs m).length = 6 := rfl
/-- Is it a message: its kind is one, and the fields that its kind lacks are nought. -/
def isV (m : Msg) : Bool := decide (0 ≤ manyV m.Kind) && ((fs m).drop (manyV m.Kind).toNat).all (· == 0)
theorem fs_mk (k : Int) (l : List Int) : fs (mkM k l) = [l.getD 0 0, l.getD 1 0, l.getD 2 0, l.getD 3 0, l.getD 4 0, l.getD 5 0] := rfl
theorem mk_get (k : Int) (l : List Int) {i : Nat} (hi : i < 6) : (fs (mkM k l))[i]? = some (l.getD i 0) := by
  match i, hi with
  | 0, _ => rfl
  | 1, _ => rfl
  | 2, _ => rfl
  | 3, _ => rfl
  | 4, _ => rfl
  | 5, _ => rfl
theorem fs_ext {m m' : Msg} (hk : m.Kind = m'.Kind) (h : fs m = fs m') : m = m' := by
  cases m; cases m'
  simp only [fs, List.cons.injEq, and_true] at h
  obtain ⟨rfl, rfl, rfl, rfl, rfl, rfl⟩ := h
  cases hk
  rfl
theorem mk_take (k : Int) (l : List Int) : fs (mkM k l) = l.take 6 ++ List.replicate (6 - l.length) 0 := by
  match l with
  | [] => rfl
  | [_] => rfl
  | [_, _] => rfl
  | [_, _, _] => rfl
  | [_, _, _, _] => rfl
  | [_, _, _, _, _] => rfl
  | _ :: _ :: _ :: _ :: _ :: _ :: t =>
    rw [show 6 - (_ :: _ :: _ :: _ :: _ :: _ :: t : List Int).length = 0 by simp]; rfl
/-- What a message is made of. -/
theorem isV_inv {m : Msg} (h : isV m = true) : 0 ≤ manyV m.Kind ∧ mkM m.Kind ((fs m).take (manyV m.Kind).toNat) = m := by
  unfold isV at h
  rw [Bool.and_eq_true, decide_eq_true_eq] at h
  obtain ⟨h0, h1⟩ := h
  have h6 := (manyV_range m.Kind).2
  refine ⟨h0, fs_ext rfl ?_⟩
  generalize (manyV m.Kind).toNat = n at h1
  rw [mk_take]
  have hl := fs_len m
  rw [List.take_of_length_le (by rw [List.length_take]; omega)]
  conv => rhs; rw [← List.take_append_drop n (fs m)]
  congr 1
  rw [List.length_take, hl]
  refine (List.eq_replicate_iff.2 ⟨by rw [List.length_drop, hl]; omega, fun b hb => ?_⟩).symm
  have := List.all_eq_true.1 h1 b hb
  simpa using this
theorem isV_mk {k : Int} {l : List Int} (h0 : 0 ≤ manyV k) (hl : (l.length : Int) ≤ manyV k) : isV (mkM k l) = true := by
  have h6 := (manyV_range k).2
  unfold isV
  rw [Bool.and_eq_true]
  refine ⟨decide_eq_true h0, List.all_eq_true.2 fun x hx => ?_⟩
  have hx : x ∈ (fs (mkM k l)).drop (manyV k).toNat := hx
  rw [mk_take, List.take_of_length_le (by omega), List.drop_append, List.drop_eq_nil_of_le (by omega), List.nil_append] at hx
  have := List.eq_of_mem_replicate (List.mem_of_mem_drop hx)
  simpa using this
theorem loadL_i {cs : List Value} {off : Nat} {n : Int} {K : Int → Prop} (h : cs[off]? = some (Value.int .i64 n)) (hk : K n) : loadLP (cI .i64) cs off K := by
  refine ⟨n, fun i v hv => ?_, hk⟩
  have hv : [Value.int .i64 n][i]? = some v := hv
  match i, hv with
  | 0, hv => cases hv; exact h
theorem msg_at (m : Msg) {i : Nat} (hi : i < 6) : ∃ x, (fs m)[i]? = some x ∧ (cMsg.enc m).cells.toList[1 + i * 1]? = some (Value.int .i64 x) := by
  match i, hi with
  | 0, _ => exact ⟨_, rfl, rfl⟩
  | 1, _ => exact ⟨_, rfl, rfl⟩
  | 2, _ => exact ⟨_, rfl, rfl⟩
  | 3, _ => exact ⟨_, rfl, rfl⟩
  | 4, _ => exact ⟨_, rfl, rfl⟩
  | 5, _ => exact ⟨_, rfl, rfl⟩
theorem set_msg (k : Int) (l : List Int) {i : Nat} (hi : i < 6) (hl : l.length = i) (n : Int) : (cMsg.enc (mkM k (l ++ [n]))).cells.toList = setL (cMsg.enc (mkM k l)).cells.toList (1 + i * 1) [Value.int .i64 n] := by
  match i, hi, l, hl with
  | 0, _, [], _ => rfl
  | 1, _, [_], _ => rfl
  | 2, _, [_, _], _ => rfl
  | 3, _, [_, _, _], _ => rfl
  | 4, _, [_, _, _, _], _ => rfl
  | 5, _, [_, _, _, _, _], _ => rfl
theorem of5_ok {k : Int} {p : Sl} {g h : Hp} {ns : List Int} (hg : g.sub h) (r : Row (cI .i64) g p ns) {Q : Msg → Hp → Prop} (hq : Q (mkM k (ns.take 6)) h) : callP Tryz.prog 43 [Value.int .i64 k, Value.slice p.a p.len p.cap] cMsg h Q := by
  refine c43 ?_
  unfold F43
  have hl := r.1
  refine loop_i (fun z h' => ∃ i : Nat, z = (mkM k (ns.take i), (i : Int)) ∧ i ≤ 6 ∧ i ≤ ns.length ∧ h' = h) (fun z => 6 - z.2.toNat) ⟨0, rfl, Nat.zero_le _, Nat.zero_le _, rfl⟩ ?_
  rintro J z h' again ⟨i, rfl, h6, hin, rfl⟩
  refine join_i (fun t h1 => h1 = h' ∧ t = decide (i < ns.length ∧ i < 6)) ?_ fun J2 hJ2 => ?_
  · rintro t h1 ⟨rfl, rfl⟩
    refine cond_d (fun hi => ?_) fun hi => ?_
    · have a0 : ns[i]? = some ns[i] := List.getElem?_eq_getElem hi.1
      refine idx_row r (Int.natCast_nonneg i) (by dsimp only; omega) fun a ha => load_row r hg rfl ha (i := i) a0 (by simp) ?_
      refine ⟨Int.natCast_nonneg i, by dsimp only; omega, ?_⟩
      dsimp only
      rw [Int.toNat_natCast]
      refine ⟨by simp; omega, _, set_msg k (ns.take i) hi.2 (by rw [List.length_take]; omega) ns[i], ?_⟩
      refine again _ _ ⟨i + 1, ?_, by omega, by omega, rfl⟩ (by dsimp only; rw [w64n (by omega)]; omega)
      rw [w64n (by omega), List.take_add_one, a0]; rfl
    · have e : ns.take i = ns.take 6 := by
        rcases Nat.lt_or_ge i 6 with h | h
        · rw [List.take_of_length_le (by omega), List.take_of_length_le (by omega)]
        · rw [show i = 6 by omega]
      dsimp only
      rw [e]
      exact hq
  · dsimp only
    refine cond_d (fun h0 => hJ2 _ _ ⟨rfl, decide_eq_decide.2 (by omega)⟩) fun h0 => hJ2 _ _ ⟨rfl, by simp; omega⟩
end Go.Proofs.YtmkgcdgpokidjaaGreat

/- Chapter 5: what is a message, and its bytes. -/
namespace Go.Proofs.YtmkgcdgpokidjaaGreat
open Go.Eng

theorem isV_neg {m : Msg} (h : manyV m.Kind < 0) : isV m = false := by
  unfold isV; rw [decide_eq_false (by omega)]; rfl
theorem isV_bad {m : Msg} {i : Nat} {x : Int} (hi : (manyV m.Kind).toNat ≤ i) (hx : (fs m)[i]? = some x) (h0 : x ≠ 0) : isV m = false := by
  unfold isV
  rw [Bool.and_eq_false_iff]
  right
  rw [List.all_eq_false]
  refine ⟨x, ?_, by simpa using h0⟩
  refine List.mem_of_getElem? (i := i - (manyV m.Kind).toNat) ?_
  rw [List.getElem?_drop, show (manyV m.Kind).toNat + (i - (manyV m.Kind).toNat) = i by omega]
  exact hx
theorem isV_good {m : Msg} (h0 : 0 ≤ manyV m.Kind) (h : ∀ (i : Nat) (x : Int), (manyV m.Kind).toNat ≤ i → i < 6 → (fs m)[i]? = some x → x = 0) : isV m = true := by
  unfold isV
  rw [decide_eq_true h0, Bool.true_and, List.all_eq_true]
  intro x hx
  obtain ⟨j, hj⟩ := List.getElem?_of_mem hx
  rw [List.getElem?_drop] at hj
  have hlt := (List.getElem?_eq_some_iff.1 hj).1
  have := h _ x (Nat.le_add_right _ _) hlt hj
  simpa using this
theorem is_ok {m : Msg} {h : Hp} {l : List Hp} (o : On h l) {Q : Bool → Hp → Prop} (hq : ∀ h', On h' l → Q (isV m) h') : callP Tryz.prog 65 [cMsg.enc m] cB h Q := by
  refine c65 ?_
  unfold F65
  refine alloc_ob o fun k1 h1 o1 => ?_
  have hq := hq h1 o1.tail
  refine load_ob (x := m.Kind) o1 0 rfl rfl ?_
  refine many_ok ?_
  have hr := manyV_range m.Kind
  refine cond_d (fun hn => by rw [isV_neg hn] at hq; exact hq) fun hn => ?_
  generalize hn1 : manyV m.Kind = n at hn hr
  obtain ⟨n, rfl⟩ : ∃ k : Nat, n = k := ⟨n.toNat, by omega⟩
  refine ⟨by omega, by omega, ?_⟩
  rw [Int.toNat_natCast]
  have r0 : Row (cI .i64) (ob k1 [Value.int .i64 m.Kind, Value.int .i64 m.F_0, Value.int .i64 m.F_1, Value.int .i64 m.F_2, Value.int .i64 m.F_3, Value.int .i64 m.F_4, Value.int .i64 m.F_5] 30) ⟨some ⟨k1, 1, none⟩, 6, 6⟩ (fs m) := ⟨rfl, ob_rds rfl⟩
  have rc := r0.cut (k := n) (m := 6) (cap' := 6 - n) (by omega) (by rw [fs_len]; omega) (by rw [fs_len]; exact Nat.le_refl 6) rfl (z := 1) rfl
  rw [List.take_of_length_le (by rw [List.length_drop, fs_len]; omega)] at rc
  refine loop_i (fun z h' => ∃ i : Nat, z = i ∧ i ≤ 6 - n ∧ (∀ (j : Nat) (x : Int), n ≤ j → j < n + i → (fs m)[j]? = some x → x = 0) ∧ h' = h1) (fun z => 6 - n - z.toNat) ⟨0, rfl, Nat.zero_le _, fun j x h1 h2 => by omega, rfl⟩ ?_
  rintro J z h' again ⟨i, rfl, hle, hz, rfl⟩
  refine cond_d (fun hlt => ?_) fun hge => ?_
  · have hi : n + i < 6 := by omega
    have hx : (fs m)[n + i]? = some (fs m)[n + i] := List.getElem?_eq_getElem (by rw [fs_len]; exact hi)
    have hx2 : ((fs m).drop n)[i]? = some (fs m)[n + i] := by rw [List.getElem?_drop]; exact hx
    refine idx_row rc (Int.natCast_nonneg i) (by rw [List.length_drop, fs_len]; omega) fun a ha => load_row rc (o1.get (i := 0) rfl) rfl ha (i := i) hx2 (by simp) ?_
    refine cond_i (fun hne => ?_) fun heq => ?_
    · rw [isV_bad (i := n + i) (by rw [hn1]; omega) hx (by simpa using hne)] at hq
      exact hq
    · refine again _ _ ⟨i + 1, w64n (by omega), by omega, fun j x h1 h2 h3 => ?_, rfl⟩ (by rw [w64n (by omega)]; omega)
      by_cases hj : j < n + i
      · exact hz j x h1 hj h3
      · rw [show j = n + i by omega, hx] at h3
        cases h3
        simpa using heq
  · have : isV m = true := isV_good (by rw [hn1]; omega) fun i x h1 h2 h3 => hz i x (by rw [hn1] at h1; omega) (by omega) h3
    rw [this] at hq
    exact hq
theorem ris_ok {m : Msg} {h : Hp} {l : List Hp} (o : On h l) {Q : Bool → Hp → Prop} (hq : ∀ h', On h' l → Q (isV m) h') : callP Tryz.prog 68 [cMsg.enc m] cB h Q := by
  refine c68 ?_
  unfold F68
  refine rmany_ok o fun h1 o1 => ?_
  have hq := hq h1 o1
  have hr := manyV_range m.Kind
  have em : maxI (manyV m.Kind) 0 = ((manyV m.Kind).toNat : Int) := by unfold maxI; split <;> omega
  rw [em]
  refine loop_i (fun z h' => ∃ i : Nat, z = i ∧ (manyV m.Kind).toNat ≤ i ∧ i ≤ 6 ∧ (∀ (j : Nat) (x : Int), (manyV m.Kind).toNat ≤ j → j < i → (fs m)[j]? = some x → x = 0) ∧ h' = h1) (fun z => 6 - z.toNat) ⟨(manyV m.Kind).toNat, rfl, Nat.le_refl _, by omega, fun j x h1 h2 => by omega, rfl⟩ ?_
  rintro J z h' again ⟨i, rfl, hni, hle, hz, rfl⟩
  refine cond_d (fun hlt => ?_) fun hge => ?_
  · have hi : i < 6 := by omega
    obtain ⟨x, hx, hc⟩ := msg_at m hi
    refine ⟨Int.natCast_nonneg i, hlt, loadL_i (n := x) (by rw [Int.toNat_natCast]; exact hc) ?_⟩
    refine cond_i (fun hne => ?_) fun heq => ?_
    · rw [isV_bad hni hx (by simpa using hne)] at hq
      exact hq
    · refine again _ _ ⟨i + 1, w64n (by omega), by omega, by omega, fun j y h1 h2 h3 => ?_, rfl⟩ (by rw [w64n (by omega)]; omega)
      by_cases hj : j < i
      · exact hz j y h1 hj h3
      · rw [show j = i by omega, hx] at h3
        cases h3
        simpa using heq
  · by_cases h0 : 0 ≤ manyV m.Kind
    · rw [isV_good h0 fun i x h1 h2 h3 => hz i x h1 (by omega) h3] at hq
      rw [show decide (manyV m.Kind ≥ 0) = true from decide_eq_true h0]
      exact hq
    · rw [isV_neg (by omega)] at hq
      rw [show decide (manyV m.Kind ≥ 0) = false from decide_eq_false (by omega)]
      exact hq
def fmsg (x : Frame) : Msg := ⟨x.Msg_Kind, x.Msg_F_0, x.Msg_F_1, x.Msg_F_2, x.Msg_F_3, x.Msg_F_4, x.Msg_F_5⟩
def okF (x : Frame) : Bool := isV (fmsg x) && decide (0 ≤ x.Seq)
def numsV (x : Frame) : List Int := x.Seq :: x.Msg_Kind :: (fs (fmsg x)).take (manyV x.Msg_Kind).toNat
/-- A frame's bytes; none: it is no good. -/
def bytesF (x : Frame) : List Int := bif okF x then putV (numsV x) else []
def wfF (x : Frame) : Prop := ∀ n ∈ x.Seq :: x.Msg_Kind :: fs (fmsg x), I64 n
theorem wfF_nums {x : Frame} (h : wfF x) : ∀ n ∈ numsV x, I64 n := by
  intro n hn
  refine h n ?_
  unfold numsV at hn
  rcases List.mem_cons.1 hn with rfl | hn
  · simp
  · rcases List.mem_cons.1 hn with rfl | hn
    · simp
    · exact List.mem_cons_of_mem _ (List.mem_cons_of_mem _ (List.mem_of_mem_take hn))
theorem numsV_len (x : Frame) : (numsV x).length ≤ 8 := by
  unfold numsV
  simp only [List.length_cons, List.length_take]
  have := fs_len (fmsg x)
  omega
theorem bytesF_len {x : Frame} (h : wfF x) : (bytesF x).length ≤ 80 := by
  unfold bytesF
  cases okF x with
  | false => simp
  | true =>
    have := putV_len (numsV x) (wfF_nums h)
    have := numsV_len x
    simp only [cond_true]; omega
theorem bytesF_byte (x : Frame) : Bytes (bytesF x) := by
  unfold bytesF
  cases okF x with
  | false => intro b hb; cases hb
  | true => exact putV_byte _
theorem one3_pos (n : Int) : 0 < (one3 n).length := List.length_pos_iff.2 (grp_ne _)
theorem bytesF_zero {x : Frame} : (bytesF x).length = 0 ↔ okF x = false := by
  unfold bytesF
  cases okF x with
  | false => simp
  | true =>
    have := one3_pos x.Seq
    simp only [cond_true, numsV, putV_cons, List.length_append]
    refine ⟨fun h => by omega, fun h => by cases h⟩
theorem bytes5_ok {x : Frame} {h : Hp} {l : List Hp} (o : On h l) (hw : wfF x) {Q : Sl → Hp → Prop} (hq : ∀ s d h', On h' (d :: l) → Own (cI .u8) d s (bytesF x) → Q s h') : callP Tryz.prog 54 [cFrame.enc x] cSl h Q := by
  refine c54 ?_
  unfold F54
  refine alloc_ob o fun k1 h1 o1 => ?_
  refine join_i (fun t h' => On h' (ob k1 (cFrame.enc x).cells.toList 65 :: l) ∧ t = !okF x) ?_ fun J hJ => ?_
  · rintro t h2 ⟨o2, rfl⟩
    refine cond_i (fun e => ?_) fun e => ?_
    · have ek : okF x = false := by simpa using e
      have := hq ⟨none, 0, 0⟩ Hp.emp h2 o2.tail.emp
      unfold bytesF at this
      rw [ek] at this
      exact this (Own.nil _)
    · have ek : okF x = true := by simpa using e
      have hn := (isV_inv (m := fmsg x) (by unfold okF at ek; rw [Bool.and_eq_true] at ek; exact ek.1)).1
      have hr := manyV_range x.Msg_Kind
      have hn : 0 ≤ manyV x.Msg_Kind := hn
      refine load_ob (x := x.Seq) o2 0 rfl rfl ?_
      refine load_ob (x := x.Msg_Kind) o2 0 rfl rfl ?_
      refine load_ob (x := x.Msg_Kind) o2 0 rfl rfl ?_
      refine many_ok ⟨hn, by omega, ?_⟩
      refine alloc_ob o2 fun k4 h3 o3 => ?_
      have w0 : Own (cI .i64) (ob k4 [Value.int .i64 x.Seq, Value.int .i64 x.Msg_Kind] 2) ⟨some ⟨k4, 0, none⟩, 2, 2⟩ [x.Seq, x.Msg_Kind] := own_ob (cd := cI .i64) (xs := [x.Seq, x.Msg_Kind]) (rest := []) rfl rfl rfl
      have r0 : Row (cI .i64) (ob k1 (cFrame.enc x).cells.toList 65) ⟨some ⟨k1, 2, none⟩, 6, 6⟩ (fs (fmsg x)) := ⟨rfl, ob_rds rfl⟩
      have rc := r0.cut (k := 0) (m := (manyV x.Msg_Kind).toNat) (cap' := 6) (by omega) (by rw [fs_len]; omega) (by rw [fs_len]; exact Nat.le_refl _) rfl (z := 1) rfl
      rw [List.drop_zero, Nat.sub_zero] at rc
      refine append_own (g := ob k1 (cFrame.enc x).cells.toList 65) (s := ⟨some ⟨k4, 0, none⟩, 2, 2⟩) (t := ⟨cutA (some ⟨k1, 2, none⟩) 0 6 1, (manyV x.Msg_Kind).toNat - 0, 6⟩) o3 rfl w0 (by decide) rc (o3.mem (by simp)) (by unfold roomP; rw [List.length_take, fs_len]; simp; omega) fun d5 p5 n5 m5 h5 o5 w5 => ?_
      have w5 : Own (cI .i64) d5 ⟨p5, n5, m5⟩ (numsV x) := w5
      have hnl := numsV_len x
      refine put3_ok (p0 := ⟨p5, n5, m5⟩) o5 (List.mem_cons_self ..) w5.row (wfF_nums hw) (by omega) fun s6 d6 h6 o6 w6 => ?_
      refine hq s6 d6 h6 (o6.sublist (((List.Sublist.refl l).cons _ |>.cons _).cons_cons d6)) ?_
      unfold bytesF
      rw [ek]
      exact w6
  · refine load_ob (x := fmsg x) o1 0 rfl rfl ?_
    refine is_ok (m := fmsg x) o1 fun h2 o2 => ?_
    refine cond_i (fun e => hJ _ _ ⟨o2, ?_⟩) fun e => ?_
    · unfold okF; rw [show isV (fmsg x) = false by simpa using e]; rfl
    · refine load_ob (x := x.Seq) o2 0 rfl rfl (hJ _ _ ⟨o2, ?_⟩)
      unfold okF
      rw [show isV (fmsg x) = true by simpa using e, Bool.true_and, Bool.eq_iff_iff]
      simp
theorem rbytes5_ok {x : Frame} {h : Hp} {l : List Hp} (o : On h l) (hw : wfF x) {Q : Sl → Hp → Prop} (hq : ∀ s d h', On h' (d :: l) → Own (cI .u8) d s (bytesF x) → Q s h') : callP Tryz.prog 72 [cFrame.enc x] cSl h Q := by
  refine c72 ?_
  unfold F72
  refine join_i (fun t h' => On h' l ∧ t = !okF x) ?_ fun J hJ => ?_
  · rintro t h2 ⟨o2, rfl⟩
    refine cond_i (fun e => ?_) fun e => ?_
    · have ek : okF x = false := by simpa using e
      have := hq ⟨none, 0, 0⟩ Hp.emp h2 o2.emp
      unfold bytesF at this
      rw [ek] at this
      exact this (Own.nil _)
    · have ek : okF x = true := by simpa using e
      have hn := (isV_inv (m := fmsg x) (by unfold okF at ek; rw [Bool.and_eq_true] at ek; exact ek.1)).1
      have hr := manyV_range x.Msg_Kind
      have hn : 0 ≤ manyV x.Msg_Kind := hn
      refine alloc_ob o2 fun k4 h3 o3 => ?_
      have w0 : Own (cI .i64) (ob k4 [Value.int .i64 x.Seq, Value.int .i64 x.Msg_Kind] 2) ⟨some ⟨k4, 0, none⟩, 2, 2⟩ [x.Seq, x.Msg_Kind] := own_ob (cd := cI .i64) (xs := [x.Seq, x.Msg_Kind]) (rest := []) rfl rfl rfl
      refine loop_i (fun z h' => ∃ (i : Nat) (d : Hp), z.2 = (i : Int) ∧ (i : Int) ≤ manyV x.Msg_Kind ∧ On h' (d :: l) ∧ Own (cI .i64) d z.1 (x.Seq :: x.Msg_Kind :: (fs (fmsg x)).take i)) (fun z => 6 - z.2.toNat) ⟨0, _, rfl, hn, o3, w0⟩ ?_
      rintro J ⟨z, zi⟩ h4 again ⟨i, d, hzi, hle, o4, w4⟩
      dsimp only at hzi w4
      subst hzi
      refine rmany_ok o4 fun h5 o5 => ?_
      dsimp only
      refine cond_d (fun hlt => ?_) fun hge => ?_
      · have hi : i < 6 := by omega
        obtain ⟨y, hy, hc⟩ := msg_at (fmsg x) hi
        refine ⟨Int.natCast_nonneg i, by omega, loadL_i (n := y) (by rw [Int.toNat_natCast, show 2 + i * 1 = (1 + i * 1) + 1 by omega]; exact hc) ?_⟩
        refine alloc_ob o5 fun k6 h6 o6 => ?_
        have r6 : Row (cI .i64) (ob k6 [Value.int .i64 y] 2) ⟨some ⟨k6, 0, none⟩, 1, 1⟩ [y] := row_ob rfl rfl
        refine append_own (g := ob k6 [Value.int .i64 y] 2) (s := z) (t := ⟨some ⟨k6, 0, none⟩, 1, 1⟩) o6.swap rfl w4 (by decide) r6 (o6.mem (by simp)) (by unfold roomP; simp; omega) fun d7 p7 n7 m7 h7 o7 w7 => ?_
        refine again _ _ ⟨i + 1, d7, w64n (by omega), by omega, o7.sublist (((List.Sublist.refl l).cons _).cons_cons d7), ?_⟩ (by dsimp only; rw [w64n (by omega)]; omega)
        rw [List.take_add_one, hy]
        exact w7
      · have : i = (manyV x.Msg_Kind).toNat := by omega
        subst this
        have w4 : Own (cI .i64) d z (numsV x) := w4
        have hnl := numsV_len x
        refine rput3_ok o5 (List.mem_cons_self ..) w4.row (wfF_nums hw) (by omega) fun s6 d6 h6 o6 w6 => ?_
        refine hq s6 d6 h6 (o6.sublist (((List.Sublist.refl l).cons _).cons_cons d6)) ?_
        unfold bytesF
        rw [ek]
        exact w6
  · refine cond_d (fun h0 => hJ _ _ ⟨o, ?_⟩) fun h0 => ?_
    · unfold okF; rw [decide_eq_false (p := 0 ≤ x.Seq) (by omega), Bool.and_false]; rfl
    · refine ris_ok (m := fmsg x) o fun h2 o2 => hJ _ _ ⟨o2, ?_⟩
      unfold okF; rw [decide_eq_true (p := 0 ≤ x.Seq) (by omega), Bool.and_true]
end Go.Proofs.YtmkgcdgpokidjaaGreat

/- Chapter 5: reading. -/
namespace Go.Proofs.YtmkgcdgpokidjaaGreat
open Go.Eng

/-- The frame whose bytes these are. -/
def readV (bs : List Int) : Option Frame :=
  match firstV bs with
  | none => none
  | some (s, k) => match firstV (bs.drop k) with
    | none => none
    | some (t, k2) => if s < 0 ∨ manyV t < 0 then none else (getV ((bs.drop k).drop k2) (manyV t)).map fun ns => mkF s (mkM t ns)
def zeroF : Frame := ⟨0, 0, 0, 0, 0, 0, 0, 0⟩
def readR (bs : List Int) : Frame × Int :=
  match readV bs with
  | none => (zeroF, 2)
  | some x => (x, 0)
theorem readR_none {bs : List Int} (h : readV bs = none) : readR bs = (zeroF, 2) := by unfold readR; rw [h]
theorem readR_some {bs : List Int} {x : Frame} (h : readV bs = some x) : readR bs = (x, 0) := by unfold readR; rw [h]
theorem readV_0 {bs : List Int} (h : firstV bs = none) : readV bs = none := by unfold readV; rw [h]
theorem readV_1 {bs : List Int} {s : Int} {k : Nat} (h : firstV bs = some (s, k)) (h2 : firstV (bs.drop k) = none) : readV bs = none := by unfold readV; rw [h]; dsimp only; rw [h2]
theorem readV_2 {bs : List Int} {s t : Int} {k k2 : Nat} (h : firstV bs = some (s, k)) (h2 : firstV (bs.drop k) = some (t, k2)) : readV bs = if s < 0 ∨ manyV t < 0 then none else (getV ((bs.drop k).drop k2) (manyV t)).map fun ns => mkF s (mkM t ns) := by
  conv => lhs; unfold readV
  rw [h]; dsimp only; rw [h2]
theorem getV_two {bs : List Int} {s t : Int} {k k2 : Nat} (h : firstV bs = some (s, k)) (h2 : firstV (bs.drop k) = some (t, k2)) {n : Int} (hn : 0 ≤ n) : getV bs (2 + n) = (getV ((bs.drop k).drop k2) n).map fun ns => s :: t :: ns := by
  unfold getV
  rw [if_neg (by omega), if_neg (by omega), show (2 + n).toNat = n.toNat + 1 + 1 by omega, getN_succ_some h, getN_succ_some h2, Option.map_map]
  rfl
theorem copy_ob {b : Nat} {vs : List Value} {e : TypeId} {h g : Hp} {l : List Hp} {s : Sl} {xs : List Int} {len i n : Nat} (o : On h (ob b vs e :: l)) (r : Row (cI .i64) g s xs) (hg : g.sub h) (hn : n = s.len) (hlen : n ≤ len) (hfit : i + xs.length ≤ vs.length)
    {K : Int → Hp → Prop} (hk : ∀ h', On h' (ob b (setL vs i (xs.map fun x => Value.int .i64 x)) e :: l) → K (n : Nat) h') : copyP (cI .i64) (some ⟨b, i, none⟩) len s.a n h K := by
  unfold copyP
  have hl := r.1
  rw [Nat.min_eq_left hlen]
  have e1 : cellsL (cI .i64) xs = xs.map fun x => Value.int .i64 x := by
    clear hk r hfit hl
    induction xs with
    | nil => rfl
    | cons x xs ih => rw [cellsL_cons, ih]; rfl
  have he : elemsP (cI .i64) s.a s.len h fun ys => match some (⟨b, i, none⟩ : Addr) with
    | some ad => h.may ad (n * (cI .i64).n) ∧ K (n : Nat) (h.wrs ad 0 (cellsL (cI .i64) ys))
    | none => K (n : Nat) h := by
    refine elems_row r hg ⟨?_, ?_⟩
    · refine Hp.sub_may (o.2 _ (by simp)) (may_block' (ob_at b vs e) (by simp; omega) (by intro k _ _; omega))
    · have := o.wrs (ob_at b vs e) (i := i) (vs := cellsL (cI .i64) xs) (by rw [e1, List.length_map]; exact hfit)
      rw [e1] at this ⊢
      unfold ob at this hk
      rw [one_upd] at this
      exact hk _ this
  rw [hn] at he ⊢
  exact he
theorem short5_ok {k1 k2 : Nat} {vs : List Value} {v : Value} {h : Hp} {l : List Hp} (o : On h (ob k2 [v] 66 :: ob k1 vs 65 :: l)) (hv : vs.length = 8) {Q : Frame × Int → Hp → Prop} (hq : ∀ h', On h' l → Q (zeroF, 2) h') :
    deferP Tryz.prog 47 [Value.pointer (some ⟨k1, 0, none⟩), Value.pointer (some ⟨k2, 0, none⟩)] (some (.iface 100 (.agg #[]))) h fun h13 =>
      loadP cFrame ⟨k1, 0, none⟩ h13 fun x3 => loadP (cI .i64) ⟨k2, 0, none⟩ h13 fun n4 => Q (x3, n4) h13 := by
  refine c47_1 ?_
  unfold F47_1
  refine join_i (fun _ h' => h' = h) ?_ fun J hJ => hJ _ _ rfl
  rintro _ h' rfl
  refine store_ob (vs' := (cFrame.enc zeroF).cells.toList) (cd := cFrame) (i := 0) (x := zeroF) o.swap rfl ?_ (by rw [hv]; exact Nat.le_refl 8) fun h1 o1 => ?_
  · match vs, hv with
    | [_, _, _, _, _, _, _, _], _ => rfl
  refine store_ob (vs' := [Value.int .i64 2]) (cd := cI .i64) (i := 0) (x := (2 : Int)) o1.swap rfl rfl (Nat.le_refl 1) fun h2 o2 => ?_
  refine load_ob (x := zeroF) o2 1 rfl rfl ?_
  refine load_ob (cd := cI .i64) (x := (2 : Int)) o2 0 rfl rfl ?_
  exact hq h2 o2.tail.tail
theorem must5_ok {p0 : Sl} {g h : Hp} {bs : List Int} (hg : g.sub h) (r : Row (cI .u8) g p0 bs) (hb : Bytes bs) (hcap : bs.length ≤ p0.cap) (hl : bs.length ≤ 1000000) {Q : Int × Sl → Hp → Prop} {S : Value → Hp → Prop}
    (hq : ∀ v k, firstV bs = some (v, k) → Q (v, ⟨cutA p0.a k p0.cap 1, p0.len - k, p0.cap - k⟩) h) (hs : firstV bs = none → S (.iface 100 (.agg #[])) h) :
    callXP Tryz.prog 48 [Value.slice p0.a p0.len p0.cap] (tupC [cI .i64, cSl]) h Q S := by
  refine c48 ?_
  unfold F48
  refine first_ok hg r hb hcap hl ?_
  cases hv : firstV bs with
  | none =>
    rw [firstR_none hv]
    refine join_i (fun _ _ => False) (fun _ _ h => h.elim) fun J hJ => ?_
    exact cond_t rfl (hs hv)
  | some x =>
    obtain ⟨v, k⟩ := x
    obtain ⟨_, _, _, hk, _⟩ := firstV_inv hb hv
    rw [firstR_some hv]
    refine join_i (fun _ h' => h' = h) ?_ fun J hJ => cond_f rfl (hJ _ _ rfl)
    rintro _ h' rfl
    refine ⟨Int.natCast_nonneg k, by have := r.1; dsimp only; omega, ?_⟩
    rw [show ((v, (k : Int), true).2.1).toNat = k by simp]
    exact hq v k hv
theorem enc_mk (s t : Int) {ns : List Int} (h : ns.length ≤ 6) : setL (cFrame.enc ⟨s, t, 0, 0, 0, 0, 0, 0⟩).cells.toList 2 (ns.map fun x => Value.int .i64 x) = (cFrame.enc (mkF s (mkM t ns))).cells.toList := by
  match ns, h with
  | [], _ => rfl
  | [_], _ => rfl
  | [_, _], _ => rfl
  | [_, _, _], _ => rfl
  | [_, _, _, _], _ => rfl
  | [_, _, _, _, _], _ => rfl
  | [_, _, _, _, _, _], _ => rfl
theorem read5_ok {p0 : Sl} {g h : Hp} {l : List Hp} {bs : List Int} (o : On h l) (hg : g ∈ l) (r : Row (cI .u8) g p0 bs) (hb : Bytes bs) (hcap : bs.length ≤ p0.cap) (hl : bs.length ≤ 1000000) {Q : Frame × Int → Hp → Prop} (hq : ∀ h', On h' l → Q (readR bs) h') :
    callP Tryz.prog 26 [Value.slice p0.a p0.len p0.cap] (tupC [cFrame, cI .i64]) h Q := by
  refine c26 ?_
  unfold F26
  refine alloc_ob o fun k1 h1 o1 => ?_
  refine alloc_ob o1 fun k2 h2 o2 => ?_
  refine must5_ok (o2.mem (by simp [hg])) r hb hcap hl (fun s k hs => ?_) fun hs => ?_
  · obtain ⟨_, _, _, hk, _⟩ := firstV_inv hb hs
    refine must5_ok (p0 := ⟨cutA p0.a k p0.cap 1, p0.len - k, p0.cap - k⟩) (o2.mem (by simp [hg])) (row_from r hcap hk) (hb.drop k) (by simp; omega) (by simp; omega) (fun t k2' ht => ?_) fun ht => ?_
    · have hread := readV_2 hs ht
      have hr := manyV_range t
      refine many_ok ?_
      refine join_i (fun _ h' => h' = h2 ∧ 0 ≤ s ∧ 0 ≤ manyV t) ?_ fun J2 hJ2 => ?_
      · rintro _ h5 ⟨rfl, h0, hn0⟩
        rw [if_neg (by omega)] at hread
        dsimp only
        rw [w64 (by omega) (by omega)]
        refine get_ok o2 (g := g) (by simp [hg]) r hb hcap hl (fun hn h6 o6 => ?_) fun ns hns s6 d6 h6 o6 w6 => ?_
        · refine join_i (fun _ _ => False) (fun _ _ h => h.elim) fun J hJ => cond_t rfl ?_
          rw [getV_two hs ht hn0, Option.map_eq_none_iff] at hn
          rw [hn] at hread
          exact short5_ok o6 rfl fun h' o' => by have := hq h' o'; rw [readR_none hread] at this; exact this
        · rw [getV_two hs ht hn0, Option.map_eq_some_iff] at hns
          obtain ⟨ns, hns, rfl⟩ := hns
          rw [hns] at hread
          have hlen : ns.length = (manyV t).toNat := by
            unfold getV at hns
            rw [if_neg (by omega)] at hns
            exact (getN_inv _ _ _ ((hb.drop k).drop k2') hns).1
          have hsl : s6.len = ns.length + 2 := w6.1
          have hcap6 : ns.length + 2 ≤ s6.cap := w6.le_cap (by decide)
          refine join_i (fun _ h' => h' = h6) ?_ fun J hJ => cond_f rfl (hJ _ _ rfl)
          rintro _ h7 rfl
          have o7 : On h7 (ob k1 [Value.int .i64 0, Value.int .i64 0, Value.int .i64 0, Value.int .i64 0, Value.int .i64 0, Value.int .i64 0, Value.int .i64 0, Value.int .i64 0] 65 :: ob k2 [Value.int .i64 0] 66 :: d6 :: l) := o6.pick [2, 1, 0] 3 (by decide) (by decide)
          refine store_ob (vs' := (cFrame.enc ⟨s, t, 0, 0, 0, 0, 0, 0⟩).cells.toList) (cd := cFrame) (i := 0) (x := (⟨s, t, 0, 0, 0, 0, 0, 0⟩ : Frame)) o7 rfl rfl (Nat.le_refl 8) fun h8 o8 => ?_
          refine ⟨by omega, by dsimp only; omega, ?_⟩
          have rc := w6.row.cut (k := 2) (m := ns.length + 2) (cap' := 0) (by omega) (Nat.le_refl (ns.length + 2)) hcap6 rfl (z := 1) rfl
          have rc : Row (cI .i64) d6 ⟨cutA s6.a 2 s6.cap 1, ns.length, 0⟩ ns := by
            have e : ((s :: t :: ns).drop 2).take (ns.length + 2 - 2) = ns := by
              show ns.take (ns.length + 2 - 2) = ns
              exact List.take_of_length_le (by omega)
            rw [e] at rc
            exact rc
          refine copy_ob (s := ⟨cutA s6.a 2 s6.cap 1, ns.length, 0⟩) (n := s6.len - 2) o8 rc (o8.mem (by simp)) (by dsimp only; omega) (by omega) (by show 2 + ns.length ≤ 8; omega) fun h9 o9 => ?_
          rw [enc_mk s t (by omega)] at o9
          refine load_ob (x := mkF s (mkM t ns)) o9 0 rfl rfl ?_
          refine store_ob (vs' := (cFrame.enc (mkF s (mkM t ns))).cells.toList) (cd := cFrame) (i := 0) (x := mkF s (mkM t ns)) o9 rfl rfl (Nat.le_refl 8) fun ha oa => ?_
          refine store_ob (vs' := [Value.int .i64 0]) (cd := cI .i64) (i := 0) (x := (0 : Int)) oa.swap rfl rfl (Nat.le_refl 1) fun hb' ob' => ?_
          refine c47_0 ?_
          unfold F47_0
          refine load_ob (x := mkF s (mkM t ns)) ob' 1 rfl rfl ?_
          refine load_ob (cd := cI .i64) (x := (0 : Int)) ob' 0 rfl rfl ?_
          have := hq hb' ob'.tail.tail.tail
          rw [readR_some hread] at this
          exact this
      · refine join_i (fun b h' => h' = h2 ∧ (b = true → s < 0 ∨ manyV t < 0) ∧ (b = false → 0 ≤ s ∧ 0 ≤ manyV t)) ?_ fun J3 hJ3 => ?_
        · rintro b h' ⟨rfl, hT, hF⟩
          refine cond_i (fun e => ?_) fun e => hJ2 _ _ ⟨rfl, hF e⟩
          rw [if_pos (hT e)] at hread
          exact short5_ok o2 rfl fun h' o' => by have := hq h' o'; rw [readR_none hread] at this; exact this
        · refine cond_d (fun h0 => hJ3 _ _ ⟨rfl, fun _ => .inl h0, fun h => (by cases h)⟩) fun h0 => hJ3 _ _ ⟨rfl, fun h => .inr (of_decide_eq_true h), fun h => ?_⟩
          have := of_decide_eq_false h
          dsimp only at h0 this
          omega
    · have hread := readV_1 hs ht
      exact short5_ok o2 rfl fun h' o' => by have := hq h' o'; rw [readR_none hread] at this; exact this
  · have hread := readV_0 hs
    exact short5_ok o2 rfl fun h' o' => by have := hq h' o'; rw [readR_none hread] at this; exact this
end Go.Proofs.YtmkgcdgpokidjaaGreat

/- Chapter 5: reading as the document reads, and what is known. -/
namespace Go.Proofs.YtmkgcdgpokidjaaGreat
open Go.Eng

theorem set_frame (s k : Int) (l : List Int) {i : Nat} (hi : i < 6) (hl : l.length = i) (n : Int) : (cFrame.enc (mkF s (mkM k (l ++ [n])))).cells.toList = setL (cFrame.enc (mkF s (mkM k l))).cells.toList (2 + i * 1) [Value.int .i64 n] := by
  match i, hi, l, hl with
  | 0, _, [], _ => rfl
  | 1, _, [_], _ => rfl
  | 2, _, [_, _], _ => rfl
  | 3, _, [_, _, _], _ => rfl
  | 4, _, [_, _, _, _], _ => rfl
  | 5, _, [_, _, _, _, _], _ => rfl
theorem firstR_ok {bs : List Int} (h : (firstR bs).2.2 = true) : ∃ k : Nat, firstV bs = some ((firstR bs).1, k) ∧ (firstR bs).2.1 = k := by
  cases hv : firstV bs with
  | none => rw [firstR_none hv] at h; cases h
  | some x => obtain ⟨v, k⟩ := x; rw [firstR_some hv]; exact ⟨k, rfl, rfl⟩
theorem firstR_bad {bs : List Int} (h : (firstR bs).2.2 = false) : firstV bs = none := by
  cases hv : firstV bs with
  | none => rfl
  | some x => obtain ⟨v, k⟩ := x; rw [firstR_some hv] at h; cases h
theorem firstR_at {bs : List Int} (hb : Bytes bs) : ∃ k : Nat, (firstR bs).2.1 = k ∧ k ≤ bs.length := by
  cases hv : firstV bs with
  | none => rw [firstR_none hv]; exact ⟨0, rfl, Nat.zero_le _⟩
  | some x => obtain ⟨v, k⟩ := x; rw [firstR_some hv]; exact ⟨k, rfl, (firstV_inv hb hv).2.2.2.1⟩
theorem rread5_ok {p0 : Sl} {g h : Hp} {l : List Hp} {bs : List Int} (o : On h l) (hg : g ∈ l) (r : Row (cI .u8) g p0 bs) (hb : Bytes bs) (hcap : bs.length ≤ p0.cap) (hl : bs.length ≤ 1000000) {Q : Frame × Int → Hp → Prop} (hq : ∀ h', On h' l → Q (readR bs) h') :
    callP Tryz.prog 30 [Value.slice p0.a p0.len p0.cap] (tupC [cFrame, cI .i64]) h Q := by
  refine c30 ?_
  unfold F30
  have hpl := r.1
  refine rfirst_ok o hg r hb hcap hl fun h1 o1 => ?_
  obtain ⟨k, hk, hkl⟩ := firstR_at hb
  refine ⟨by rw [hk]; omega, by rw [hk]; omega, ?_⟩
  rw [hk, Int.toNat_natCast]
  have rk := row_from r hcap hkl
  refine rfirst_ok (p0 := ⟨cutA p0.a k p0.cap 1, p0.len - k, p0.cap - k⟩) o1 hg rk (hb.drop k) (by simp; omega) (by simp; omega) fun h2 o2 => ?_
  obtain ⟨k2, hk2, hkl2⟩ := firstR_at (hb.drop k)
  rw [List.length_drop] at hkl2
  have hbad : (firstR bs).2.2 = false ∨ (firstR (bs.drop k)).2.2 = false ∨ (firstR bs).1 < 0 ∨ manyV (firstR (bs.drop k)).1 < 0 → readV bs = none := by
    intro h
    cases e1 : (firstR bs).2.2 with
    | false => exact readV_0 (firstR_bad e1)
    | true =>
      obtain ⟨k', f1, f2⟩ := firstR_ok e1
      have : k' = k := by rw [hk] at f2; omega
      subst this
      cases e2 : (firstR (bs.drop k')).2.2 with
      | false => exact readV_1 f1 (firstR_bad e2)
      | true =>
        obtain ⟨k'', g1, g2⟩ := firstR_ok e2
        rw [readV_2 f1 g1, if_pos]
        rw [e1, e2] at h
        rcases h with h | h | h
        · cases h
        · cases h
        · exact h
  refine join_i (fun t h' => h' = h2 ∧ (t = true → readV bs = none) ∧ (t = false → (firstR bs).2.2 = true ∧ (firstR (bs.drop k)).2.2 = true ∧ 0 ≤ (firstR bs).1 ∧ 0 ≤ manyV (firstR (bs.drop k)).1)) ?_ fun J hJ => ?_
  · rintro t h3 ⟨rfl, hT, hF⟩
    refine cond_i (fun e => ?_) fun e => ?_
    · have := hq h3 o2
      rw [readR_none (hT e)] at this
      exact this
    · obtain ⟨e1, e2, h0, hn⟩ := hF e
      clear hT hF
      obtain ⟨k', f1, f2⟩ := firstR_ok e1
      have : k' = k := by rw [hk] at f2; omega
      subst this
      obtain ⟨k'', g1, g2⟩ := firstR_ok e2
      have : k'' = k2 := by rw [hk2] at g2; omega
      subst this
      have hread := readV_2 f1 g1
      rw [if_neg (by omega)] at hread
      generalize (firstR (bs.drop k')).1 = t at hread hn
      generalize (firstR bs).1 = s at hread h0
      have ew : IntKind.i64.wrap ((k' : Int) + (firstR (bs.drop k')).2.1) = ((k' + k'' : Nat) : Int) := by rw [hk2, w64 (by omega) (by omega)]; omega
      rw [ew]
      refine ⟨by omega, by omega, ?_⟩
      rw [Int.toNat_natCast]
      refine rmany_ok o2 fun h4 o4 => ?_
      have r2 := row_from r hcap (k := k' + k'') (by omega)
      rw [← List.drop_drop] at r2
      refine rget_ok (p0 := ⟨cutA p0.a (k' + k'') p0.cap 1, p0.len - (k' + k''), p0.cap - (k' + k'')⟩) o4 hg r2 ((hb.drop k').drop k'') (by simp; omega) (by simp; omega) (fun hnone h5 o5 => ?_) fun ns hns s5 d5 h5 o5 w5 => ?_
      · rw [hnone] at hread
        have := hq h5 o5
        rw [readR_none hread] at this
        exact cond_t rfl this
      · rw [hns] at hread
        have hr := manyV_range t
        have hlen : ns.length = (manyV t).toNat := by
          unfold getV at hns
          rw [if_neg (by omega)] at hns
          exact (getN_inv _ _ _ ((hb.drop k').drop k'') hns).1
        have hsl := w5.1
        refine cond_f rfl ?_
        refine loop_i (fun z h' => ∃ i : Nat, z = (mkF s (mkM t (ns.take i)), (i : Int)) ∧ i ≤ ns.length ∧ h' = h5) (fun z => ns.length - z.2.toNat) ⟨0, rfl, Nat.zero_le _, rfl⟩ ?_
        rintro J1 z h6 again ⟨i, rfl, hin, rfl⟩
        dsimp only
        refine cond_d (fun hlt => ?_) fun hge => ?_
        · have hi : i < ns.length := by omega
          have a0 : ns[i]? = some ns[i] := List.getElem?_eq_getElem hi
          refine idx_row w5.row (Int.natCast_nonneg i) (by omega) fun a ha => load_row w5.row (o5.get (i := 0) rfl) rfl ha (i := i) a0 (by simp) ?_
          refine ⟨Int.natCast_nonneg i, by omega, ?_⟩
          rw [Int.toNat_natCast]
          refine ⟨by simp; omega, _, set_frame s t (ns.take i) (by omega) (by rw [List.length_take]; omega) ns[i], ?_⟩
          refine again _ _ ⟨i + 1, ?_, by omega, rfl⟩ (by dsimp only; rw [w64n (by omega)]; omega)
          rw [w64n (by omega), List.take_add_one, a0]; rfl
        · have : i = ns.length := by omega
          subst this
          rw [List.take_length]
          have := hq h6 o5.tail
          rw [readR_some hread] at this
          exact this
  · refine cond_i (fun e => hJ _ _ ⟨rfl, fun _ => hbad (.inl (by simpa using e)), fun h => (by cases h)⟩) fun e1 => ?_
    refine cond_i (fun e => hJ _ _ ⟨rfl, fun _ => hbad (.inr (.inl (by simpa using e))), fun h => (by cases h)⟩) fun e2 => ?_
    refine cond_d (fun e => hJ _ _ ⟨rfl, fun _ => hbad (.inr (.inr (.inl e))), fun h => (by cases h)⟩) fun e3 => ?_
    have hmn := manyV_neg (firstR (bs.drop k)).1
    refine cond_d (fun e => hJ _ _ ⟨rfl, fun _ => hbad (.inr (.inr (.inr (hmn.2 (.inl e))))), fun h => (by cases h)⟩) fun e4 => ?_
    refine hJ _ _ ⟨rfl, fun h => hbad (.inr (.inr (.inr (hmn.2 (.inr (of_decide_eq_true h)))))), fun h => ⟨by simpa using e1, by simpa using e2, by omega, ?_⟩⟩
    have h := of_decide_eq_false h
    omega
theorem getN_eq : ∀ (ns : List Int) (n : Nat) (l : List Int), (∀ x ∈ ns, I64 x) → getN n (putV ns) = some l → l = ns ∧ n = ns.length
  | [], 0, l, _, h => by
    have h : some [] = some l := h
    cases h; exact ⟨rfl, rfl⟩
  | [], n + 1, l, _, h => by
    rw [getN_succ_none rfl] at h; cases h
  | a :: t, 0, l, hn, h => by
    have hp := one3_pos a
    rw [putV_cons] at h
    cases hc : one3 a ++ putV t with
    | nil => rw [List.append_eq_nil_iff] at hc; rw [hc.1] at hp; cases hp
    | cons x y => rw [hc] at h; cases h
  | a :: t, n + 1, l, hn, h => by
    have h1 := firstV_one (hn a (by simp)) (putV t)
    rw [putV_cons, getN_succ_some h1, List.drop_append_of_le_length (Nat.le_refl _), List.drop_length, List.nil_append, Option.map_eq_some_iff] at h
    obtain ⟨l', h2, rfl⟩ := h
    obtain ⟨rfl, rfl⟩ := getN_eq t n l' (fun x hx => hn x (by simp [hx])) h2
    exact ⟨rfl, rfl⟩
theorem readV_put {s k : Int} {ns : List Int} (h : ∀ x ∈ s :: k :: ns, I64 x) : readV (putV (s :: k :: ns)) = if 0 ≤ s ∧ (ns.length : Int) = manyV k then some (mkF s (mkM k ns)) else none := by
  have h1 := firstV_one (h s (by simp)) (putV (k :: ns))
  have h2 := firstV_one (h k (by simp)) (putV ns)
  have e1 : (putV (s :: k :: ns)).drop (one3 s).length = putV (k :: ns) := by rw [putV_cons, List.drop_append_of_le_length (Nat.le_refl _), List.drop_length, List.nil_append]
  have e2 : (putV (k :: ns)).drop (one3 k).length = putV ns := by rw [putV_cons, List.drop_append_of_le_length (Nat.le_refl _), List.drop_length, List.nil_append]
  have hns : ∀ x ∈ ns, I64 x := fun x hx => h x (by simp [hx])
  rw [← putV_cons] at h1 h2
  rw [readV_2 h1 (by rw [e1]; exact h2), e1, e2]
  by_cases hb : s < 0 ∨ manyV k < 0
  · rw [if_pos hb, if_neg (by omega)]
  · rw [if_neg hb]
    by_cases hl : (ns.length : Int) = manyV k
    · rw [if_pos ⟨by omega, hl⟩, getV_put hns hl.symm]; rfl
    · rw [if_neg (fun hh => hl hh.2)]
      cases hg : getV (putV ns) (manyV k) with
      | none => rfl
      | some l =>
        unfold getV at hg
        rw [if_neg (by omega)] at hg
        obtain ⟨_, e⟩ := getN_eq ns _ l hns hg
        omega
theorem readV_bytes {x : Frame} (hw : wfF x) (hk : okF x = true) : readV (bytesF x) = some x := by
  unfold bytesF
  rw [hk, cond_true]
  have hk' := hk
  unfold okF at hk
  rw [Bool.and_eq_true, decide_eq_true_eq] at hk
  obtain ⟨h0, h1⟩ := isV_inv hk.1
  have h0 : 0 ≤ manyV x.Msg_Kind := h0
  have h6 := manyV_range x.Msg_Kind
  unfold numsV
  rw [readV_put (wfF_nums hw), if_pos ⟨hk.2, by rw [List.length_take, fs_len]; omega⟩]
  have h1 : mkM x.Msg_Kind ((fs (fmsg x)).take (manyV x.Msg_Kind).toNat) = fmsg x := h1
  rw [h1]; rfl
theorem getN_ext : ∀ (n : Nat) (xs ys l m : List Int), Bytes xs → getN n xs = some l → getN n (xs ++ ys) = some m → ys = []
  | 0, [], [], _, _, _, _, _ => rfl
  | 0, [], _ :: _, _, _, _, _, h => by cases h
  | 0, _ :: _, _, _, _, _, h, _ => by cases h
  | n + 1, xs, ys, l, m, hb, h1, h2 => by
    cases hf : firstV xs with
    | none => rw [getN_succ_none hf] at h1; cases h1
    | some x =>
      obtain ⟨v, k⟩ := x
      obtain ⟨_, _, _, hk, _⟩ := firstV_inv hb hf
      rw [getN_succ_some hf, Option.map_eq_some_iff] at h1
      rw [getN_succ_some (firstV_app hb hf), Option.map_eq_some_iff, List.drop_append_of_le_length hk] at h2
      obtain ⟨l', a1, _⟩ := h1
      obtain ⟨m', b1, _⟩ := h2
      exact getN_ext n _ ys l' m' (hb.drop k) a1 b1
/-- No frame's bytes go on to be another's. -/
theorem readV_ext {xs ys : List Int} {x y : Frame} (hb : Bytes xs) (h1 : readV xs = some x) (h2 : readV (xs ++ ys) = some y) : ys = [] := by
  cases hf : firstV xs with
  | none => rw [readV_0 hf] at h1; cases h1
  | some p =>
    obtain ⟨s, k⟩ := p
    obtain ⟨_, _, _, hk, _⟩ := firstV_inv hb hf
    cases hf2 : firstV (xs.drop k) with
    | none => rw [readV_1 hf hf2] at h1; cases h1
    | some q =>
      obtain ⟨t, k2⟩ := q
      obtain ⟨_, _, _, hk2, _⟩ := firstV_inv (hb.drop k) hf2
      have g1 := firstV_app (ys := ys) hb hf
      have g2 := firstV_app (ys := ys) (hb.drop k) hf2
      rw [← List.drop_append_of_le_length hk] at g2
      rw [readV_2 hf hf2] at h1
      rw [readV_2 g1 g2, List.drop_append_of_le_length hk, List.drop_append_of_le_length hk2] at h2
      by_cases hb2 : s < 0 ∨ manyV t < 0
      · rw [if_pos hb2] at h1; cases h1
      · rw [if_neg hb2, Option.map_eq_some_iff] at h1 h2
        obtain ⟨l, a1, _⟩ := h1
        obtain ⟨m, b1, _⟩ := h2
        unfold getV at a1 b1
        rw [if_neg (by omega)] at a1 b1
        exact getN_ext _ _ ys l m ((hb.drop k).drop k2) a1 b1
theorem two5 : bytesF ⟨0, 2, 0, 0, 0, 0, 0, 0⟩ = [0, 4] := by
  have h1 : one3 0 = [0] := by unfold one3; rw [show (zigV 0).toNat = 0 from rfl, grp_lt (by decide)]; rfl
  have h2 : one3 2 = [4] := by unfold one3; rw [show (zigV 2).toNat = 4 from rfl, grp_lt (by decide)]; rfl
  have h3 : bytesF ⟨0, 2, 0, 0, 0, 0, 0, 0⟩ = one3 0 ++ (one3 2 ++ []) := rfl
  rw [h3, h1, h2]; rfl
theorem two5_wf : wfF ⟨0, 2, 0, 0, 0, 0, 0, 0⟩ := by
  intro n hn
  simp only [fs, fmsg, List.mem_cons, List.not_mem_nil, or_false] at hn
  unfold I64
  rcases hn with rfl | rfl | rfl | rfl | rfl | rfl | rfl | rfl <;> omega
end Go.Proofs.YtmkgcdgpokidjaaGreat

/- Chapter 5: the laws. -/
namespace Go.Proofs.YtmkgcdgpokidjaaGreat
open Go.Eng

theorem bytesF_some {x : Frame} (h : okF x = true) : bytesF x = putV (numsV x) := by unfold bytesF; rw [h]; rfl
theorem frame_at (s k : Int) (l : List Int) {i : Nat} (hi : i < 6) {x : Int} (hx : l[i]? = some x) : (cFrame.enc (mkF s (mkM k l))).cells.toList[2 + i * 1]? = some (Value.int .i64 x) := by
  have hg : l.getD i 0 = x := by rw [List.getD_eq_getElem?_getD, hx]; rfl
  subst hg
  match i, hi with
  | 0, _ => rfl
  | 1, _ => rfl
  | 2, _ => rfl
  | 3, _ => rfl
  | 4, _ => rfl
  | 5, _ => rfl
theorem mk_nil (k : Int) {i : Nat} (hi : i < 6) : mkM k (List.replicate i 0) = mkM k [] := by
  match i, hi with
  | 0, _ => rfl
  | 1, _ => rfl
  | 2, _ => rfl
  | 3, _ => rfl
  | 4, _ => rfl
  | 5, _ => rfl
def structAt (P : Program) (t : TypeId) : Bool := match P.underlying t with | some (.struct _) => true | _ => false
theorem okWide_agg {P : Program} {W : World} {r : Reach} {base : Nat} {t : TypeId} {v : Value} (ht : structAt P t = true) (h : Value.okWide P W r base t v) : ∃ cs, v = .agg cs := by
  unfold structAt at ht
  unfold Value.okWide at h
  split at ht
  · rename_i fs hf
    rw [hf] at h
    obtain ⟨cs, h, _⟩ := h
    exact ⟨cs, h⟩
  · cases ht
set_option maxRecDepth 20000 in
theorem open_agg_cFrame {W : World} {base : Nat} {v : Value} (o : Opn Tryz.prog W 65 v.cells.toList) (hv : Value.okWide Tryz.prog W .any base 48 v) : ∃ x : Frame, v = cFrame.enc x := by
  obtain ⟨cs, rfl⟩ := okWide_agg (P := Tryz.prog) (W := W) (r := .any) (base := base) (t := 48) (v := v) (by kernel_rfl) hv
  obtain ⟨y, hy, ok⟩ := open_flat (d := 4) (ls := [(.i .i64, 2), (.i .i64, 3), (.i .i64, 2), (.i .i64, 2), (.i .i64, 2), (.i .i64, 2), (.i .i64, 2), (.i .i64, 2)]) o (by kernel_rfl)
  obtain ⟨y0, y1, y2, y3, y4, y5, y6, y7⟩ := y
  have e : cs.toList = [Value.int .i64 y0, Value.int .i64 y1, Value.int .i64 y2, Value.int .i64 y3, Value.int .i64 y4, Value.int .i64 y5, Value.int .i64 y6, Value.int .i64 y7] := hy
  refine ⟨⟨y0, y1, y2, y3, y4, y5, y6, y7⟩, ?_⟩
  obtain ⟨l⟩ := cs
  have e : l = _ := e
  subst e
  rfl
theorem open_frame {W : World} {x : Frame} (h : Opn Tryz.prog W 65 (cFrame.enc x).cells.toList) : wfF x := by
  obtain ⟨y, hy, ok⟩ := open_flat (d := 4) (ls := [(.i .i64, 2), (.i .i64, 3), (.i .i64, 2), (.i .i64, 2), (.i .i64, 2), (.i .i64, 2), (.i .i64, 2), (.i .i64, 2)]) h (by kernel_rfl)
  obtain ⟨y0, y1, y2, y3, y4, y5, y6, y7⟩ := y
  have e : (cFrame.enc x).cells.toList = [Value.int .i64 y0, Value.int .i64 y1, Value.int .i64 y2, Value.int .i64 y3, Value.int .i64 y4, Value.int .i64 y5, Value.int .i64 y6, Value.int .i64 y7] := hy
  obtain ⟨k0, k1, k2, k3, k4, k5, k6, k7⟩ := ok
  have e' : [Value.int .i64 x.Seq, Value.int .i64 x.Msg_Kind, Value.int .i64 x.Msg_F_0, Value.int .i64 x.Msg_F_1, Value.int .i64 x.Msg_F_2, Value.int .i64 x.Msg_F_3, Value.int .i64 x.Msg_F_4, Value.int .i64 x.Msg_F_5] = [Value.int .i64 y0, Value.int .i64 y1, Value.int .i64 y2, Value.int .i64 y3, Value.int .i64 y4, Value.int .i64 y5, Value.int .i64 y6, Value.int .i64 y7] := e
  simp only [List.cons.injEq, Value.int.injEq, true_and, and_true] at e'
  obtain ⟨a0, a1, a2, a3, a4, a5, a6, a7⟩ := e'
  intro n hn
  simp only [fs, fmsg, List.mem_cons, List.not_mem_nil, or_false] at hn
  rcases hn with rfl | rfl | rfl | rfl | rfl | rfl | rfl | rfl
  · rw [a0]; exact wfI64 k0
  · rw [a1]; exact wfI64 k1
  · rw [a2]; exact wfI64 k2
  · rw [a3]; exact wfI64 k3
  · rw [a4]; exact wfI64 k4
  · rw [a5]; exact wfI64 k5
  · rw [a6]; exact wfI64 k6
  · rw [a7]; exact wfI64 k7
end Go.Proofs.YtmkgcdgpokidjaaGreat
