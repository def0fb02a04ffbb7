/- Chapter 5: messages: kinds and fields. -/
import Derived.Test.YtmkgcdgpokidjaaPackL
import Derived.Test.YtmkgcdgpokidjaaKeepA
import Derived.Test.YtmkgcdgpokidjaaFB
set_option linter.unusedVariables false
namespace Go.Proofs.Ytmkgcdgpokidjaa
open Go.Eng

/-- How many fields the document gives a kind; -1: no such kind. -/
def manyL : List Int := [-1, 1, 0, 0, 1, 0, 5, 1, 3, 5, 3, 1, 1, 1, 1, 1, 1, 2, 2, 2, 4, 2, 5, 4, 3, 2, 2, 1, 6]
def manyV (k : Int) : Int := if k < 0 then -1 else manyL.getD k.toNat (-1)
theorem kinds {k : Int} {P : Int → Prop} (h : ∀ n : Nat, n < 29 → P n) (h1 : 0 ≤ k) (h2 : k < 29) : P k := by
  obtain ⟨n, rfl⟩ : ∃ n : Nat, k = n := ⟨k.toNat, by omega⟩
  exact h n (by omega)
theorem manyV_out {k : Int} (h : k < 0 ∨ 29 ≤ k) : manyV k = -1 := by
  unfold manyV
  by_cases h0 : k < 0
  · rw [if_pos h0]
  · rw [if_neg h0, List.getD_eq_getElem?_getD, List.getElem?_eq_none (by simp [manyL]; omega)]; rfl
theorem manyV_range (k : Int) : -1 ≤ manyV k ∧ manyV k ≤ 6 := by
  by_cases h : k < 0 ∨ 29 ≤ k
  · rw [manyV_out h]; omega
  · have key : ∀ n : Nat, n < 29 → -1 ≤ manyV n ∧ manyV n ≤ 6 := by decide +kernel
    exact kinds (P := fun k => -1 ≤ manyV k ∧ manyV k ≤ 6) key (by omega) (by omega)
theorem manyV_neg (k : Int) : manyV k < 0 ↔ k < 1 ∨ 28 < k := by
  by_cases h : k < 0 ∨ 29 ≤ k
  · rw [manyV_out h]; omega
  · have key : ∀ n : Nat, n < 29 → (manyV n < 0 ↔ (n : Int) < 1 ∨ 28 < (n : Int)) := by decide +kernel
    exact kinds (P := fun k => manyV k < 0 ↔ k < 1 ∨ 28 < k) key (by omega) (by omega)
theorem many_f {k : Int} {h : Hp} {Q : Int → Hp → Prop} (hq : Q (manyV k) h) : F97 k h Q := by
  by_cases hk : k < 0 ∨ 29 ≤ k
  · have hne : ∀ c : Int, 0 ≤ c → c < 29 → (k == c) = false := by
      intro c h1 h2
      simp only [beq_eq_false_iff_ne, ne_eq]
      omega
    rw [manyV_out hk] at hq
    unfold F97 joinP
    simp only [hne 1 (by decide) (by decide), hne 2 (by decide) (by decide), hne 3 (by decide) (by decide), hne 4 (by decide) (by decide), hne 5 (by decide) (by decide), hne 6 (by decide) (by decide), hne 7 (by decide) (by decide), hne 8 (by decide) (by decide), hne 9 (by decide) (by decide), hne 10 (by decide) (by decide), hne 11 (by decide) (by decide), hne 12 (by decide) (by decide), hne 13 (by decide) (by decide), hne 14 (by decide) (by decide), hne 15 (by decide) (by decide), hne 16 (by decide) (by decide), hne 17 (by decide) (by decide), hne 18 (by decide) (by decide), hne 19 (by decide) (by decide), hne 20 (by decide) (by decide), hne 21 (by decide) (by decide), hne 22 (by decide) (by decide), hne 23 (by decide) (by decide), hne 24 (by decide) (by decide), hne 25 (by decide) (by decide), hne 26 (by decide) (by decide), hne 27 (by decide) (by decide), hne 28 (by decide) (by decide)]
    exact hq
  · have : k = 0 ∨ k = 1 ∨ k = 2 ∨ k = 3 ∨ k = 4 ∨ k = 5 ∨ k = 6 ∨ k = 7 ∨ k = 8 ∨ k = 9 ∨ k = 10 ∨ k = 11 ∨ k = 12 ∨ k = 13 ∨ k = 14 ∨ k = 15 ∨ k = 16 ∨ k = 17 ∨ k = 18 ∨ k = 19 ∨ k = 20 ∨ k = 21 ∨ k = 22 ∨ k = 23 ∨ k = 24 ∨ k = 25 ∨ k = 26 ∨ k = 27 ∨ k = 28 := by omega
    rcases this with rfl | rfl | rfl | rfl | rfl | rfl | rfl | rfl | rfl | rfl | rfl | rfl | rfl | rfl | rfl | rfl | rfl | rfl | rfl | rfl | rfl | rfl | rfl | rfl | rfl | rfl | rfl | rfl | rfl <;> exact hq
theorem many_ok {k : Int} {K : Int → Prop} (hk : K (manyV k)) : pureP Try.prog 97 [Value.int .i64 k] (cI .i64) K := by
  refine ⟨manyV k, ?_, hk⟩
  have := c97 (p0 := k) (h := Hp.emp) (Q := fun x h' => x = manyV k ∧ h' = Hp.emp) (many_f ⟨rfl, rfl⟩)
  exact Spec.mono this fun v h' ⟨x, e, ex, eh⟩ => ⟨by rw [e, ex], eh⟩
theorem rmany_ok {k : Int} {h : Hp} {l : List Hp} (o : On h l) {Q : Int → Hp → Prop} (hq : ∀ h', On h' l → Q (manyV k) h') : callP Try.prog 96 [Value.int .i64 k] (cI .i64) h Q := by
  refine c96 ?_
  unfold F96
  refine alloc_ob o fun k1 h1 o1 => ?_
  have r1 : Row (cI .i64) (ob k1 _ 3) ⟨some ⟨k1, 0, none⟩, 29, 29⟩ manyL := row_ob rfl rfl
  refine join_i (fun t h' => h' = h1 ∧ t = decide (k < 0 ∨ 29 ≤ k)) ?_ fun J hJ => ?_
  · rintro t h2 ⟨rfl, rfl⟩
    refine cond_d (fun hk => ?_) fun hk => ?_
    · have := hq _ o1.tail
      rw [manyV_out hk] at this
      exact this
    · obtain ⟨n, rfl⟩ : ∃ n : Nat, k = n := ⟨k.toNat, by omega⟩
      have hn : n < 29 := by omega
      have hl : n < manyL.length := hn
      refine idx_row r1 (Int.natCast_nonneg n) (by simp [manyL]; omega) fun a ha => load_row r1 (o1.get (i := 0) rfl) rfl ha (i := n) (List.getElem?_eq_getElem hl) (by simp) ?_
      have := hq _ o1.tail
      have e : manyV n = manyL[n] := by
        unfold manyV
        rw [if_neg (by omega), Int.toNat_natCast, List.getD_eq_getElem?_getD, List.getElem?_eq_getElem hl]; rfl
      rw [e] at this
      exact this
  · refine cond_d (fun h0 => hJ _ _ ⟨rfl, by simp; omega⟩) fun h0 => hJ _ _ ⟨rfl, decide_eq_decide.2 (by omega)⟩

def fs (m : Msg) : List Int := [m.F_0, m.F_1, m.F_2, m.F_3, m.F_4, m.F_5]
def mkM (k : Int) (l : List Int) : Msg := ⟨k, l.getD 0 0, l.getD 1 0, l.getD 2 0, l.getD 3 0, l.getD 4 0, l.getD 5 0⟩
theorem mkM_fs (m : Msg) : mkM m.Kind (fs m) = m := rfl
theorem fs_len (m : Msg) : (fs m).length = 6 := rfl
/-- Is it a message: its kind is one, and the fields that its kind lacks are nought. -/
def isV (m : Msg) : Bool := decide (0 ≤ manyV m.Kind) && ((fs m).drop (manyV m.Kind).toNat).all (· == 0)
theorem fs_mk (k : Int) (l : List Int) : fs (mkM k l) = [l.getD 0 0, l.getD 1 0, l.getD 2 0, l.getD 3 0, l.getD 4 0, l.getD 5 0] := rfl
theorem mk_get (k : Int) (l : List Int) {i : Nat} (hi : i < 6) : (fs (mkM k l))[i]? = some (l.getD i 0) := by
  match i, hi with
  | 0, _ => rfl
  | 1, _ => rfl
  | 2, _ => rfl
  | 3, _ => rfl
  | 4, _ => rfl
  | 5, _ => rfl
theorem fs_ext {m m' : Msg} (hk : m.Kind = m'.Kind) (h : fs m = fs m') : m = m' := by
  cases m; cases m'
  simp only [fs, List.cons.injEq, and_true] at h
  obtain ⟨rfl, rfl, rfl, rfl, rfl, rfl⟩ := h
  cases hk
  rfl
theorem mk_take (k : Int) (l : List Int) : fs (mkM k l) = l.take 6 ++ List.replicate (6 - l.length) 0 := by
  match l with
  | [] => rfl
  | [_] => rfl
  | [_, _] => rfl
  | [_, _, _] => rfl
  | [_, _, _, _] => rfl
  | [_, _, _, _, _] => rfl
  | _ :: _ :: _ :: _ :: _ :: _ :: t =>
    rw [show 6 - (_ :: _ :: _ :: _ :: _ :: _ :: t : List Int).length = 0 by simp]; rfl
/-- What a message is made of. -/
theorem isV_inv {m : Msg} (h : isV m = true) : 0 ≤ manyV m.Kind ∧ mkM m.Kind ((fs m).take (manyV m.Kind).toNat) = m := by
  unfold isV at h
  rw [Bool.and_eq_true, decide_eq_true_eq] at h
  obtain ⟨h0, h1⟩ := h
  have h6 := (manyV_range m.Kind).2
  refine ⟨h0, fs_ext rfl ?_⟩
  generalize (manyV m.Kind).toNat = n at h1
  rw [mk_take]
  have hl := fs_len m
  rw [List.take_of_length_le (by rw [List.length_take]; omega)]
  conv => rhs; rw [← List.take_append_drop n (fs m)]
  congr 1
  rw [List.length_take, hl]
  refine (List.eq_replicate_iff.2 ⟨by rw [List.length_drop, hl]; omega, fun b hb => ?_⟩).symm
  have := List.all_eq_true.1 h1 b hb
  simpa using this
theorem isV_mk {k : Int} {l : List Int} (h0 : 0 ≤ manyV k) (hl : (l.length : Int) ≤ manyV k) : isV (mkM k l) = true := by
  have h6 := (manyV_range k).2
  unfold isV
  rw [Bool.and_eq_true]
  refine ⟨decide_eq_true h0, List.all_eq_true.2 fun x hx => ?_⟩
  have hx : x ∈ (fs (mkM k l)).drop (manyV k).toNat := hx
  rw [mk_take, List.take_of_length_le (by omega), List.drop_append, List.drop_eq_nil_of_le (by omega), List.nil_append] at hx
  have := List.eq_of_mem_replicate (List.mem_of_mem_drop hx)
  simpa using this

theorem loadL_i {cs : List Value} {off : Nat} {n : Int} {K : Int → Prop} (h : cs[off]? = some (Value.int .i64 n)) (hk : K n) : loadLP (cI .i64) cs off K := by
  refine ⟨n, fun i v hv => ?_, hk⟩
  have hv : [Value.int .i64 n][i]? = some v := hv
  match i, hv with
  | 0, hv => cases hv; exact h
theorem msg_at (m : Msg) {i : Nat} (hi : i < 6) : ∃ x, (fs m)[i]? = some x ∧ (cMsg.enc m).cells.toList[1 + i * 1]? = some (Value.int .i64 x) := by
  match i, hi with
  | 0, _ => exact ⟨_, rfl, rfl⟩
  | 1, _ => exact ⟨_, rfl, rfl⟩
  | 2, _ => exact ⟨_, rfl, rfl⟩
  | 3, _ => exact ⟨_, rfl, rfl⟩
  | 4, _ => exact ⟨_, rfl, rfl⟩
  | 5, _ => exact ⟨_, rfl, rfl⟩
theorem set_msg (k : Int) (l : List Int) {i : Nat} (hi : i < 6) (hl : l.length = i) (n : Int) : (cMsg.enc (mkM k (l ++ [n]))).cells.toList = setL (cMsg.enc (mkM k l)).cells.toList (1 + i * 1) [Value.int .i64 n] := by
  match i, hi, l, hl with
  | 0, _, [], _ => rfl
  | 1, _, [_], _ => rfl
  | 2, _, [_, _], _ => rfl
  | 3, _, [_, _, _], _ => rfl
  | 4, _, [_, _, _, _], _ => rfl
  | 5, _, [_, _, _, _, _], _ => rfl
theorem of5_ok {k : Int} {p : Sl} {g h : Hp} {ns : List Int} (hg : g.sub h) (r : Row (cI .i64) g p ns) {Q : Msg → Hp → Prop} (hq : Q (mkM k (ns.take 6)) h) : callP Try.prog 86 [Value.int .i64 k, Value.slice p.a p.len p.cap] cMsg h Q := by
  refine c86 ?_
  unfold F86
  have hl := r.1
  refine loop_i (fun z h' => ∃ i : Nat, z = (mkM k (ns.take i), (i : Int)) ∧ i ≤ 6 ∧ i ≤ ns.length ∧ h' = h) (fun z => 6 - z.2.toNat) ⟨0, rfl, Nat.zero_le _, Nat.zero_le _, rfl⟩ ?_
  rintro J z h' again ⟨i, rfl, h6, hin, rfl⟩
  refine join_i (fun t h1 => h1 = h' ∧ t = decide (i < ns.length ∧ i < 6)) ?_ fun J2 hJ2 => ?_
  · rintro t h1 ⟨rfl, rfl⟩
    refine cond_d (fun hi => ?_) fun hi => ?_
    · have a0 : ns[i]? = some ns[i] := List.getElem?_eq_getElem hi.1
      refine idx_row r (Int.natCast_nonneg i) (by dsimp only; omega) fun a ha => load_row r hg rfl ha (i := i) a0 (by simp) ?_
      refine ⟨Int.natCast_nonneg i, by dsimp only; omega, ?_⟩
      dsimp only
      rw [Int.toNat_natCast]
      refine ⟨by simp; omega, _, set_msg k (ns.take i) hi.2 (by rw [List.length_take]; omega) ns[i], ?_⟩
      refine again _ _ ⟨i + 1, ?_, by omega, by omega, rfl⟩ (by dsimp only; rw [w64n (by omega)]; omega)
      rw [w64n (by omega), List.take_add_one, a0]; rfl
    · have e : ns.take i = ns.take 6 := by
        rcases Nat.lt_or_ge i 6 with h | h
        · rw [List.take_of_length_le (by omega), List.take_of_length_le (by omega)]
        · rw [show i = 6 by omega]
      dsimp only
      rw [e]
      exact hq
  · dsimp only
    refine cond_d (fun h0 => hJ2 _ _ ⟨rfl, decide_eq_decide.2 (by omega)⟩) fun h0 => hJ2 _ _ ⟨rfl, by simp; omega⟩
end Go.Proofs.Ytmkgcdgpokidjaa
