/- Chapter 3: so many numbers. -/
import Derived.Test.YtmkgcdgpokidjaaPackG
set_option linter.unusedVariables false
namespace Go.Proofs.Ytmkgcdgpokidjaa
open Go.Eng

def short : Value := .iface 146 (.agg #[])
theorem must_ok {p0 : Sl} {g h : Hp} {bs : List Int} (hg : g.sub h) (r : Row (cI .u8) g p0 bs) (hb : Bytes bs) (hcap : bs.length ≤ p0.cap) (hl : bs.length ≤ 1000000) {Q : Int × Sl → Hp → Prop} {S : Value → Hp → Prop}
    (hq : ∀ v k, firstV bs = some (v, k) → Q (v, ⟨cutA p0.a k p0.cap 1, p0.len - k, p0.cap - k⟩) h) (hs : firstV bs = none → S short h) :
    callXP Try.prog 122 [Value.slice p0.a p0.len p0.cap] (tupC [cI .i64, cSl]) h Q S := by
  refine c122 ?_
  unfold F122
  refine first_ok hg r hb hcap hl ?_
  cases hv : firstV bs with
  | none =>
    rw [firstR_none hv]
    refine join_i (fun _ _ => False) (fun _ _ h => h.elim) fun J hJ => ?_
    exact cond_t rfl (hs hv)
  | some x =>
    obtain ⟨v, k⟩ := x
    obtain ⟨_, _, _, hk, _⟩ := firstV_inv hb hv
    rw [firstR_some hv]
    refine join_i (fun _ h' => h' = h) ?_ fun J hJ => cond_f rfl (hJ _ _ rfl)
    rintro _ h' rfl
    refine ⟨Int.natCast_nonneg k, by have := r.1; dsimp only; omega, ?_⟩
    rw [show ((v, (k : Int), true).2.1).toNat = k by simp]
    exact hq v k hv

theorem row_from {g : Hp} {p : Sl} {bs : List Int} (r : Row (cI .u8) g p bs) (hcap : bs.length ≤ p.cap) {k : Nat} (hk : k ≤ bs.length) : Row (cI .u8) g ⟨cutA p.a k p.cap 1, p.len - k, p.cap - k⟩ (bs.drop k) := by
  have hl := r.1
  have r1 := r.cut (k := k) (m := p.len) (cap' := p.cap - k) (by omega) (by omega) hcap rfl (z := 1) rfl
  rwa [List.take_of_length_le (by simp; omega)] at r1

theorem getd_none {a b : Addr} {h : Hp} {K : Hp → Prop} (hk : K h) : deferP Try.prog 121 [Value.pointer (some a), Value.pointer (some b)] none h K := by
  refine c121_0 ?_
  unfold F121_0
  exact hk
theorem getd_some {b1 b2 : Nat} {v1 v2 : Value} {e1 e2 : TypeId} {h : Hp} {l : List Hp} (o : On h (ob b1 [v1] e1 :: ob b2 [v2] e2 :: l)) {K : Hp → Prop} (hk : ∀ h', On h' (ob b1 [Value.slice none 0 0] e1 :: ob b2 [Value.int .i64 2] e2 :: l) → K h') :
    deferP Try.prog 121 [Value.pointer (some ⟨b1, 0, none⟩), Value.pointer (some ⟨b2, 0, none⟩)] (some short) h K := by
  refine c121_1 ?_
  unfold F121_1
  refine join_i (fun _ h' => h' = h) ?_ fun J hJ => hJ _ _ rfl
  rintro _ h' rfl
  refine store_ob (vs' := [Value.slice none 0 0]) (cd := cSl) (i := 0) (x := (⟨none, 0, 0⟩ : Sl)) o rfl rfl (Nat.le_refl 1) fun h1 o1 => ?_
  refine store_ob (vs' := [Value.int .i64 2]) (cd := cI .i64) (i := 0) (x := (2 : Int)) o1.swap rfl rfl (Nat.le_refl 1) fun h2 o2 => ?_
  exact hk h2 o2.swap

theorem get_ok {p0 : Sl} {n : Int} {g h : Hp} {l : List Hp} {bs : List Int} (o : On h l) (hg : g ∈ l) (r : Row (cI .u8) g p0 bs) (hb : Bytes bs) (hcap : bs.length ≤ p0.cap) (hl : bs.length ≤ 1000000) {Q : Sl × Int → Hp → Prop}
    (h0 : getV bs n = none → ∀ h', On h' l → Q (⟨none, 0, 0⟩, 2) h') (h1 : ∀ ns, getV bs n = some ns → ∀ s d h', On h' (d :: l) → Own (cI .i64) d s ns → Q (s, 0) h') :
    callP Try.prog 63 [Value.slice p0.a p0.len p0.cap, Value.int .i64 n] (tupC [cSl, cI .i64]) h Q := by
  refine c63 ?_
  unfold F63
  refine alloc_ob o fun k1 h2 o2 => ?_
  refine alloc_ob o2 fun k2 h3 o3 => ?_
  have o3' : On h3 (ob k1 [Value.slice none 0 0] 37 :: ob k2 [Value.int .i64 0] 71 :: Hp.emp :: l) := (o3.emp.pull 2 rfl).pick [0, 2, 1] 3 (by decide) (by decide)
  -- what is left of a panic
  have fail : ∀ {v1 : Value} {d h' : Hp}, getV bs n = none → On h' (ob k1 [v1] 37 :: ob k2 [Value.int .i64 0] 71 :: d :: l) →
      deferP Try.prog 121 [Value.pointer (some ⟨k1, 0, none⟩), Value.pointer (some ⟨k2, 0, none⟩)] (some short) h' fun h10 =>
        loadP cSl ⟨k1, 0, none⟩ h10 fun s4 => loadP (cI .i64) ⟨k2, 0, none⟩ h10 fun n1 => Q (s4, n1) h10 := by
    intro v1 d h' hv o'
    refine getd_some o' fun h5 o5 => ?_
    refine load_ob (x := (⟨none, 0, 0⟩ : Sl)) o5 0 rfl rfl ?_
    refine load_ob (cd := cI .i64) (x := (2 : Int)) o5 1 rfl rfl ?_
    exact h0 hv h5 o5.tail.tail.tail
  refine join_i (fun _ h' => h' = h3 ∧ ¬ n < 0) ?_ fun J3 hJ3 => ?_
  · rintro _ h' ⟨rfl, hn⟩
    have hgv : getV bs n = getN n.toNat bs := by unfold getV; rw [if_neg hn]
    refine loop_i (fun s h' => ∃ (bs' ns : List Int) (sl : Sl) (d : Hp), Row (cI .u8) g s bs' ∧ Bytes bs' ∧ bs'.length ≤ s.cap ∧ ns.length + bs'.length ≤ bs.length ∧ ns.length ≤ n.toNat ∧ getN n.toNat bs = (getN (n.toNat - ns.length) bs').map (ns ++ ·) ∧
        On h' (ob k1 [sv sl] 37 :: ob k2 [Value.int .i64 0] 71 :: d :: l) ∧ Own (cI .i64) d sl ns) (fun s => s.len)
      ⟨bs, [], ⟨none, 0, 0⟩, Hp.emp, r, hb, hcap, by simp, Nat.zero_le _, by simp, o3', Own.nil _⟩ ?_
    rintro J1 s h4 again ⟨bs', ns, sl, d, rs, hb', hcap', hlen, hnl, hget, o4, wd⟩
    have hsl : sl.len = ns.length := wd.1
    have hsl2 : s.len = bs'.length := rs.1
    refine load_ob (x := sl) o4 0 rfl rfl ?_
    refine cond_d (fun hlt => ?_) fun hge => ?_
    · have hsucc : n.toNat - ns.length = (n.toNat - ns.length - 1) + 1 := by omega
      refine must_ok (o4.mem (by simp [hg])) rs hb' hcap' (by omega) (fun v k hv => ?_) fun hv => ?_
      · obtain ⟨_, _, _, hk, hk0⟩ := firstV_inv hb' hv
        refine load_ob (x := sl) o4 0 rfl rfl ?_
        refine alloc_ob o4 fun k3 h5 o5 => ?_
        have rv : Row (cI .i64) (ob k3 [Value.int .i64 v] 2) ⟨some ⟨k3, 0, none⟩, 1, 1⟩ [v] := row_ob rfl rfl
        have o5' := o5.pull 3 rfl
        refine append_own (s := sl) (t := ⟨some ⟨k3, 0, none⟩, 1, 1⟩) o5' rfl wd (by decide) rv (o5'.get (i := 1) rfl) (by unfold roomP; simp; omega) fun d6 p6 n6 m6 h6 o6 w6 => ?_
        refine store_ob (vs' := [Value.slice p6 n6 m6]) (cd := cSl) (i := 0) (x := (⟨p6, n6, m6⟩ : Sl)) (o6.pull 2 rfl) rfl rfl (Nat.le_refl 1) fun h7 o7 => ?_
        refine again _ _ ⟨bs'.drop k, ns ++ [v], ⟨p6, n6, m6⟩, d6, row_from rs hcap' hk, hb'.drop k, by simp; omega, by simp; omega, by simp; omega, ?_, o7.pick [0, 3, 1] 4 (by decide) (by decide), w6⟩ (by dsimp only; omega)
        rw [hget, hsucc, getN_succ_some hv, List.length_append, List.length_singleton, show n.toNat - (ns.length + 1) = n.toNat - ns.length - 1 by omega, Option.map_map]
        congr 1
        funext x
        simp
      · refine fail ?_ o4
        rw [hgv, hget, hsucc, getN_succ_none hv]; rfl
    · have hz : n.toNat - ns.length = 0 := by omega
      rw [hz] at hget
      refine join_i (fun _ h' => h' = h4 ∧ bs' = []) ?_ fun J2 hJ2 => ?_
      · rintro _ h5 ⟨rfl, hnil⟩
        refine load_ob (x := sl) o4 0 rfl rfl ?_
        refine store_ob (vs' := [sv sl]) (cd := cSl) (i := 0) (x := sl) o4 rfl rfl (Nat.le_refl 1) fun h6 o6 => ?_
        refine store_ob (vs' := [Value.int .i64 0]) (cd := cI .i64) (i := 0) (x := (0 : Int)) o6.swap rfl rfl (Nat.le_refl 1) fun h7 o7 => ?_
        refine getd_none ?_
        refine load_ob (x := sl) o7 1 rfl rfl ?_
        refine load_ob (cd := cI .i64) (x := (0 : Int)) o7 0 rfl rfl ?_
        refine h1 ns ?_ sl d h7 o7.tail.tail wd
        rw [hgv, hget, hnil]
        simp [getN]
      · refine cond_d (fun hpos => ?_) fun hpos => hJ2 _ _ ⟨rfl, List.length_eq_zero_iff.1 (by omega)⟩
        refine fail ?_ o4
        rw [hgv, hget]
        cases bs' with
        | nil => simp at hsl2; omega
        | cons c bs' => rfl
  · refine cond_d (fun hn => ?_) fun hn => hJ3 _ _ ⟨rfl, hn⟩
    refine fail ?_ o3'
    unfold getV; rw [if_pos hn]

theorem rget_ok {p0 : Sl} {n : Int} {g h : Hp} {l : List Hp} {bs : List Int} (o : On h l) (hg : g ∈ l) (r : Row (cI .u8) g p0 bs) (hb : Bytes bs) (hcap : bs.length ≤ p0.cap) (hl : bs.length ≤ 1000000) {Q : Sl × Int → Hp → Prop}
    (h0 : getV bs n = none → ∀ h', On h' l → Q (⟨none, 0, 0⟩, 2) h') (h1 : ∀ ns, getV bs n = some ns → ∀ s d h', On h' (d :: l) → Own (cI .i64) d s ns → Q (s, 0) h') :
    callP Try.prog 67 [Value.slice p0.a p0.len p0.cap, Value.int .i64 n] (tupC [cSl, cI .i64]) h Q := by
  refine c67 ?_
  unfold F67
  refine loop_i (fun z h' => ∃ (bs' ns : List Int) (d : Hp), Row (cI .u8) g z.1 bs' ∧ Bytes bs' ∧ bs'.length ≤ z.1.cap ∧ ns.length + bs'.length ≤ bs.length ∧ ns.length ≤ n.toNat ∧ getN n.toNat bs = (getN (n.toNat - ns.length) bs').map (ns ++ ·) ∧
      z.2.2 = ns.length ∧ On h' (d :: l) ∧ Own (cI .i64) d z.2.1 ns) (fun z => z.1.len)
    ⟨bs, [], Hp.emp, r, hb, hcap, by simp, Nat.zero_le _, by simp, rfl, o.emp, Own.nil _⟩ ?_
  rintro J1 ⟨s, sl, z⟩ h4 again ⟨bs', ns, d, rs, hb', hcap', hlen, hnl, hget, hz, o4, wd⟩
  dsimp only at rs hcap' hz wd
  subst hz
  have hsl2 : s.len = bs'.length := rs.1
  refine cond_d (fun hlt => ?_) fun hge => ?_
  · dsimp only at hlt
    have hgv : getV bs n = getN n.toNat bs := by unfold getV; rw [if_neg (by omega)]
    have hsucc : n.toNat - ns.length = (n.toNat - ns.length - 1) + 1 := by omega
    refine rfirst_ok o4 (by simp [hg]) rs hb' hcap' (by omega) fun h5 o5 => ?_
    cases hv : firstV bs' with
    | none =>
      rw [firstR_none hv]
      refine cond_t rfl (h0 ?_ h5 o5.tail)
      rw [hgv, hget, hsucc, getN_succ_none hv]; rfl
    | some x =>
      obtain ⟨v, k⟩ := x
      obtain ⟨_, _, _, hk, hk0⟩ := firstV_inv hb' hv
      rw [firstR_some hv]
      refine cond_f rfl ?_
      refine alloc_ob o5 fun k3 h6 o6 => ?_
      have rv : Row (cI .i64) (ob k3 [Value.int .i64 v] 2) ⟨some ⟨k3, 0, none⟩, 1, 1⟩ [v] := row_ob rfl rfl
      refine append_own (s := sl) (t := ⟨some ⟨k3, 0, none⟩, 1, 1⟩) o6.swap rfl wd (by decide) rv (o6.get (i := 0) rfl) (by unfold roomP; simp; omega) fun d6 p6 n6 m6 h7 o7 w6 => ?_
      refine ⟨Int.natCast_nonneg k, by dsimp only; omega, ?_⟩
      have hkk : ((v, (k : Int), true).2.1).toNat = k := by simp
      refine again _ _ ⟨bs'.drop k, ns ++ [v], d6, ?_, hb'.drop k, ?_, by simp; omega, by simp; omega, ?_, ?_, o7.sublist (by simp), w6⟩ (by dsimp only; simp; omega)
      · dsimp only [Int.toNat_natCast]
        exact row_from rs hcap' hk
      · dsimp only [Int.toNat_natCast]
        simp; omega
      · rw [hget, hsucc, getN_succ_some hv, List.length_append, List.length_singleton, show n.toNat - (ns.length + 1) = n.toNat - ns.length - 1 by omega, Option.map_map]
        congr 1
        funext x
        simp
      · dsimp only; rw [w64n (by omega)]; simp
  · dsimp only at hge
    refine join_i (fun t h' => h' = h4 ∧ t = decide (n < 0 ∨ 0 < bs'.length)) ?_ fun J2 hJ2 => ?_
    · rintro t h5 ⟨rfl, rfl⟩
      refine cond_d (fun hbad => ?_) fun hok => ?_
      · refine h0 ?_ h5 o4.tail
        unfold getV
        split
        · rfl
        · rw [hget, show n.toNat - ns.length = 0 by omega]
          cases bs' with
          | nil => simp at hbad; omega
          | cons c bs' => rfl
      · have hnil : bs' = [] := List.length_eq_zero_iff.1 (by omega)
        refine h1 ns ?_ _ d h5 o4 wd
        unfold getV
        rw [if_neg (by omega), hget, show n.toNat - ns.length = 0 by omega, hnil]
        simp [getN]
    · refine cond_d (fun hn => hJ2 _ _ ⟨rfl, by rw [decide_eq_true (.inl hn)]⟩) fun hn => hJ2 _ _ ⟨rfl, ?_⟩
      dsimp only
      rw [Bool.eq_iff_iff]; simp; omega

theorem same3_ok {p0 p1 : Sl} {g1 g2 h : Hp} {xs ys : List Int} (h1 : g1.sub h) (h2 : g2.sub h) (r1 : Row (cI .i64) g1 p0 xs) (r2 : Row (cI .i64) g2 p1 ys) (hl : xs.length ≤ 1000000) {Q : Bool → Hp → Prop} (hq : Q (decide (xs = ys)) h) :
    callP Try.prog 65 [Value.slice p0.a p0.len p0.cap, Value.slice p1.a p1.len p1.cap] cB h Q := by
  refine c65 ?_
  unfold F65
  have l1 := r1.1
  have l2 := r2.1
  refine cond_i (fun hne => ?_) fun heq => ?_
  · have : xs ≠ ys := by rintro rfl; simp [l1, l2] at hne
    rw [decide_eq_false this] at hq; exact hq
  · have hlen : xs.length = ys.length := by simp at heq; omega
    refine loop_i (fun z h' => ∃ i : Nat, z = i ∧ i ≤ xs.length ∧ h' = h ∧ xs.take i = ys.take i) (fun z => xs.length - z.toNat) ⟨0, rfl, Nat.zero_le _, rfl, rfl⟩ ?_
    rintro J z h' again ⟨i, rfl, hle, rfl, ht⟩
    refine cond_d (fun hlt => ?_) fun hge => ?_
    · have hlt : i < xs.length := by omega
      have hi : xs[i]? = some xs[i] := List.getElem?_eq_getElem hlt
      have hi2 : ys[i]? = some (ys[i]'(by omega)) := List.getElem?_eq_getElem (by omega)
      refine idx_row r1 (by omega) (by omega) fun a ha => idx_row r2 (by omega) (by omega) fun a2 ha2 => ?_
      refine load_row r1 h1 rfl ha (i := i) hi (by simp) ?_
      refine load_row r2 h2 rfl ha2 (i := i) hi2 (by simp) ?_
      refine cond_i (fun hne => ?_) fun heq => ?_
      · have : xs ≠ ys := by rintro rfl; simp at hne
        rw [decide_eq_false this] at hq; exact hq
      · have he : xs[i] = ys[i]'(by omega) := by simpa using heq
        refine again _ _ ⟨i + 1, w64n (by omega), by omega, rfl, ?_⟩ (by rw [w64n (by omega)]; omega)
        rw [List.take_add_one, List.take_add_one, ht, hi, hi2, he]
    · have : xs = ys := by
        rw [List.take_of_length_le (by omega), List.take_of_length_le (by omega)] at ht
        exact ht
      rw [decide_eq_true this] at hq; exact hq

theorem get3 : getV [1, 216, 4] 2 = some [-1, 300] := by
  have h1 : putV [-1, 300] = [1, 216, 4] := by
    simp [putV, one3, zigV, grp_lt, grp_ge]
  have h2 : getN 2 (putV [-1, 300]) = some [-1, 300] := getN_put [-1, 300] [] (by unfold I64; decide)
  rw [h1] at h2
  exact h2
theorem known3_ok {h : Hp} {l : List Hp} (o : On h l) {Q : Bool → Hp → Prop} (hq : ∀ h', On h' l → Q true h') : callP Try.prog 66 [] cB h Q := by
  refine c66 ?_
  unfold F66
  refine alloc_ob o fun k1 h1 o1 => ?_
  have rb : Row (cI .u8) (ob k1 [Value.int .u8 1, Value.int .u8 216, Value.int .u8 4] 5) ⟨some ⟨k1, 0, none⟩, 3, 3⟩ [1, 216, 4] := row_ob rfl rfl
  have hby : Bytes [1, 216, 4] := by intro b hb; simp at hb; omega
  refine get_ok (p0 := ⟨some ⟨k1, 0, none⟩, 3, 3⟩) o1 (List.mem_cons_self ..) rb hby (Nat.le_refl 3) (by simp) (fun hn => by rw [get3] at hn; cases hn) fun ns hns s d h2 o2 w2 => ?_
  rw [get3] at hns
  cases hns
  refine alloc_ob o2 fun k2 h3 o3 => ?_
  have rn : Row (cI .i64) (ob k2 [Value.int .i64 (-1), Value.int .i64 300] 2) ⟨some ⟨k2, 0, none⟩, 2, 2⟩ [-1, 300] := row_ob rfl rfl
  refine put3_ok (p0 := ⟨some ⟨k2, 0, none⟩, 2, 2⟩) o3 (List.mem_cons_self ..) rn (by unfold I64; decide) (by simp) fun s4 d4 h4 o4 w4 => ?_
  have h1 : putV [-1, 300] = [1, 216, 4] := by simp [putV, one3, zigV, grp_lt, grp_ge]
  rw [h1] at w4
  refine str_row w4.row (o4.get (i := 0) rfl) ?_
  refine cond_t (by decide +kernel) (cond_t rfl ?_)
  have hs := w2.1
  refine cond_t (by rw [hs]; rfl) ?_
  refine idx_row w2.row (by omega) (by simp) fun a ha => ?_
  refine load_row w2.row (o4.get (i := 2) rfl) rfl ha (i := 1) (m := 1) rfl rfl ?_
  exact hq _ o4.tail.tail.tail.tail
end Go.Proofs.Ytmkgcdgpokidjaa
