/- Chapter 8: boxes, and the document's boxes. -/
import Derived.Test.YtmkgcdgpokidjaaGreatBaseA
set_option linter.unusedVariables false
namespace Go.Proofs.YtmkgcdgpokidjaaGreat
open Go.Eng

/-- A box with room for 'n', that holds 'q'. -/
def IsBox (p : Option Addr) (n : Nat) (q : List (List Int)) (shut : Bool) (c : Hp) : Prop :=
  ∃ b e r s r' ss ds, p = some ⟨b, 0, none⟩ ∧ On c (ob b [.chan (some r), .bool shut] e :: Hp.one r (.chan n (List.toArray (ss.map sv)) false s r' false) :: ds) ∧ Owns ds ss q
theorem new_ok {n : Int} {h : Hp} {l : List Hp} (o : On h l) {Q : Option Addr → Hp → Prop} (h0 : n < 1 ∨ 256 < n → Q none h) (hq : ∀ p c h', 1 ≤ n → n ≤ 256 → On h' (c :: l) → IsBox p n.toNat [] false c → Q p h') :
    callP Tryz.prog 22 [Value.int .i64 n] cP h Q := by
  refine c22 ?_
  unfold F22
  refine join_i (fun t h1 => h1 = h ∧ (t = true → n < 1 ∨ 256 < n) ∧ (t = false → 1 ≤ n ∧ n ≤ 256)) ?_ fun J hJ => ?_
  · rintro t h1 ⟨rfl, ht, hf⟩
    refine cond_i (fun e => h0 (ht e)) fun e => ?_
    obtain ⟨hn1, hn2⟩ := hf e
    refine ⟨by omega, by omega, by omega, fun k1 hk1 => ?_⟩
    have o1 := o.new hk1 (.chan n.toNat #[] false 0 0 false)
    refine alloc_ob o1 fun k2 h2 o2 => ?_
    have o3 : On h2 ([ob k2 [.chan (some k1), .bool false] 91, Hp.one k1 (.chan n.toNat #[] false 0 0 false)] ++ l) := o2
    obtain ⟨o4, o5⟩ := o3.joined
    exact hq _ _ _ hn1 hn2 o4 ⟨k2, _, k1, 0, 0, [], [], rfl, o5, trivial⟩
  · refine cond_d (fun e => hJ _ _ ⟨rfl, fun _ => .inl e, fun h => by cases h⟩) fun e => hJ _ _ ⟨rfl, fun h => .inr (by simpa using h), fun h => ⟨by omega, by simpa using h⟩⟩
theorem put_ok {p : Option Addr} {n : Nat} {q : List (List Int)} {shut : Bool} {c g h : Hp} {l : List Hp} {m : Sl} {bs : List Int} (o : On h (c :: l)) (w : IsBox p n q shut c) {i : Nat} (hi : (c :: l)[i]? = some g)
    (r : Row (cI .u8) g m bs) (hl : bs.length ≤ 1000000) {Q : Bool → Hp → Prop}
    (hq : ∀ c' h', On h' (c' :: l) → IsBox p n (bif !shut && decide (q.length < n) then q ++ [bs] else q) shut c' → Q (!shut && decide (q.length < n)) h') :
    callP Tryz.prog 55 [Value.pointer p, Value.slice m.a m.len m.cap] cB h Q := by
  have w' := w
  obtain ⟨b, e, rb, s, r', ss, ds, rfl, oc, rr⟩ := w
  refine c55 ?_
  unfold F55
  have os := o.split oc
  refine join_i (fun t h1 => h1 = h ∧ t = shut) ?_ fun J hJ => ?_
  · rintro t h1 ⟨rfl, rfl⟩
    refine cond_i (fun e' => ?_) fun e' => ?_
    · subst e'
      exact hq c _ o (by simpa using w')
    · subst e'
      refine load_ob (x := some rb) os 0 rfl rfl ?_
      refine clone_ok o hi r hl fun s1 d1 h2 o2 w2 => ?_
      have os2 := o2.swap.split oc
      have hc := os2.get (i := 1) rfl _ _ (one_at _ _)
      refine ⟨n, (ss.map sv).toArray, s, r', hc, fun hfull => ?_, fun hroom => ?_⟩
      · have hlen : q.length = ss.length := (Owns.len rr).symm
        have hnl : ¬ q.length < n := by simp at hfull; omega
        have := hq c h2 (o2.swap.sublist (List.Sublist.cons_cons c (List.sublist_cons_self _ _)))
        simp only [Bool.not_false, Bool.true_and, decide_eq_false hnl, cond_false] at this
        exact this w'
      · have hlen : q.length = ss.length := (Owns.len rr).symm
        have hnl : q.length < n := by simp at hroom; omega
        have o3 := (os2.swap.upd (one_at _ _) (.chan n ((ss.map sv).toArray.push (sv s1)) false (s + 1) r' false))
        rw [one_upd] at o3
        have o7 : On _ (ob b [.chan (some rb), .bool false] e :: Hp.one rb (.chan n ((ss.map sv).toArray.push (sv s1)) false (s + 1) r' false) :: (ds ++ d1 :: l)) := o3.swap
        rw [show ds ++ d1 :: l = (ds ++ [d1]) ++ l by simp] at o7
        obtain ⟨o8, o9⟩ := On.joined (cs := _ :: _ :: (ds ++ [d1])) (l := l) o7
        have := hq _ _ o8
        simp only [Bool.not_false, Bool.true_and, decide_eq_true hnl, cond_true] at this
        refine this ⟨b, e, rb, s + 1, r', ss ++ [s1], ds ++ [d1], rfl, ?_, rr.push w2⟩
        · rw [List.map_append]
          simpa using o9
  · refine cond_f rfl ?_
    exact load_ob (x := shut) os 0 rfl rfl (hJ _ _ ⟨rfl, rfl⟩)
theorem take_ok {p : Option Addr} {n : Nat} {q : List (List Int)} {shut : Bool} {c h : Hp} {l : List Hp} (o : On h (c :: l)) (w : IsBox p n q shut c) {Q : Sl × Bool → Hp → Prop}
    (h0 : q = [] → Q (⟨none, 0, 0⟩, false) h)
    (h1 : ∀ bs q' s d c' h', q = bs :: q' → On h' (c' :: d :: l) → IsBox p n q' shut c' → Own (cI .u8) d s bs → Q (s, true) h') : callP Tryz.prog 37 [Value.pointer p] (tupC [cSl, cB]) h Q := by
  obtain ⟨b, e, rb, s, r', ss, ds, rfl, oc, rr⟩ := w
  refine c37 ?_
  unfold F37
  have os := o.split oc
  refine cond_f rfl ?_
  refine load_ob (x := some rb) os 0 rfl rfl ?_
  have hc := os.get (i := 1) rfl _ _ (one_at _ _)
  refine ⟨n, ss.map sv, s, r', hc, ?_⟩
  match ds, ss, q, rr, os, hc, h0, h1 with
  | [], [], [], _, _, _, h0, _ => exact h0 rfl
  | d :: ds, s1 :: ss, bs :: q, rr, os, hc, _, h1 =>
      refine ⟨s1, rfl, ?_⟩
      have o3 := (os.swap.upd (one_at _ _) (.chan n (List.toArray (ss.map sv)) false s (r' + 1) false))
      rw [one_upd] at o3
      have o6 : On _ (ob b [.chan (some rb), .bool shut] e :: Hp.one rb (.chan n (List.toArray (ss.map sv)) false s (r' + 1) false) :: d :: (ds ++ l)) := o3.swap
      have o7 := o6.perm (l' := (ob b [.chan (some rb), .bool shut] e :: Hp.one rb (.chan n (List.toArray (ss.map sv)) false s (r' + 1) false) :: ds) ++ (d :: l)) (List.Perm.cons _ (List.Perm.cons _ List.perm_middle.symm))
      obtain ⟨o8, o9⟩ := o7.joined
      exact h1 bs q s1 d _ _ rfl o8 ⟨b, e, rb, s, r' + 1, ss, ds, rfl, o9, rr.2⟩ rr.1
theorem take_nil {h : Hp} {Q : Sl × Bool → Hp → Prop} (h0 : Q (⟨none, 0, 0⟩, false) h) : callP Tryz.prog 37 [Value.pointer none] (tupC [cSl, cB]) h Q := by
  refine c37 ?_
  unfold F37
  exact cond_t rfl h0
theorem put_nil {m : Sl} {h : Hp} {Q : Bool → Hp → Prop} (h0 : Q false h) : callP Tryz.prog 55 [Value.pointer none, Value.slice m.a m.len m.cap] cB h Q := by
  refine c55 ?_
  unfold F55
  exact h0
/-- The document's box with room for 'n', that holds 'q'. -/
def IsRef8 (p : Option Addr) (b : Nat × List (List Int) × Bool) (c : Hp) : Prop :=
  ∃ bk e sl d ss ds, p = some ⟨bk, 0, none⟩ ∧ On c (ob bk [sv sl, .int .i64 (b.1 : Nat), .bool b.2.2] e :: d :: ds) ∧ Own cSl d sl ss ∧ Owns ds ss b.2.1
theorem rnew8_ok {n : Int} {h : Hp} {l : List Hp} (o : On h l) {Q : Option Addr → Hp → Prop} (h0 : n < 1 ∨ 256 < n → Q none h) (hq : ∀ p c h', 1 ≤ n → n ≤ 256 → On h' (c :: l) → IsRef8 p (n.toNat, [], false) c → Q p h') :
    callP Tryz.prog 24 [Value.int .i64 n] cP h Q := by
  refine c24 ?_
  unfold F24
  refine join_i (fun t h1 => h1 = h ∧ (t = true → n < 1 ∨ 256 < n) ∧ (t = false → 1 ≤ n ∧ n ≤ 256)) ?_ fun J hJ => ?_
  · rintro t h1 ⟨rfl, ht, hf⟩
    refine cond_i (fun e => h0 (ht e)) fun e => ?_
    obtain ⟨hn1, hn2⟩ := hf e
    refine alloc_ob o fun k1 h2 o2 => ?_
    have o3 : On h2 ([ob k1 [Value.slice none 0 0, Value.int .i64 n, .bool false] 95, Hp.emp] ++ l) := o2.emp.swap
    obtain ⟨o4, o5⟩ := o3.joined
    refine hq _ _ _ hn1 hn2 o4 ⟨k1, 95, ⟨none, 0, 0⟩, Hp.emp, [], [], rfl, ?_, Own.nil _, trivial⟩
    dsimp only
    rw [show ((n.toNat : Nat) : Int) = n by omega]
    exact o5
  · refine cond_d (fun e => hJ _ _ ⟨rfl, fun _ => .inl e, fun h => by cases h⟩) fun e => hJ _ _ ⟨rfl, fun h => .inr (by simpa using h), fun h => ⟨by omega, by simpa using h⟩⟩
theorem rput8_ok {p : Option Addr} {n : Nat} {q : List (List Int)} {shut : Bool} {c g h : Hp} {l : List Hp} {m : Sl} {bs : List Int} (o : On h (c :: l)) (w : IsRef8 p (n, q, shut) c) (hg : g ∈ l)
    (r : Row (cI .u8) g m bs) (hl : bs.length ≤ 1000000) (hql : q.length ≤ 1000000) {Q : Bool → Hp → Prop}
    (hq : ∀ c' h', On h' (c' :: l) → IsRef8 p (n, (bif !shut && decide (q.length < n) then q ++ [bs] else q), shut) c' → Q (!shut && decide (q.length < n)) h') :
    callP Tryz.prog 73 [Value.pointer p, Value.slice m.a m.len m.cap] cB h Q := by
  have w' := w
  obtain ⟨b, e, sl, d, ss, ds, rfl, oc, wd, rr⟩ := w
  dsimp only at oc rr
  refine c73 ?_
  unfold F73
  dsimp only [nilP]
  have os := o.split oc
  have hlen : q.length = ss.length := (Owns.len rr).symm
  have hsl : sl.len = ss.length := wd.1
  refine join_i (fun t h1 => h1 = h ∧ t = (shut || decide (n ≤ q.length))) ?_ fun J hJ => ?_
  · rintro t h1 ⟨rfl, rfl⟩
    refine cond_i (fun e' => ?_) fun e' => ?_
    · have hb : (!shut && decide (q.length < n)) = false := by
        cases shut
        · simp at e'; simp; omega
        · rfl
      have := hq c _ o
      rw [hb] at this
      exact this w'
    · have hsh : shut = false := by cases shut <;> simp_all
      subst hsh
      have hn : q.length < n := by simp at e'; omega
      have hb : (!false && decide (q.length < n)) = true := by simp [hn]
      rw [hb] at hq
      refine load_ob (cd := cSl) (x := sl) os 0 rfl rfl ?_
      refine alloc_ob os fun k1 h2 o2 => ?_
      have w0 : Own (cI .u8) (ob k1 [] 5) ⟨some ⟨k1, 0, none⟩, 0, 0⟩ [] := own_ob (cd := cI .u8) (xs := []) (rest := []) rfl rfl rfl
      refine append_own (g := g) (s := ⟨some ⟨k1, 0, none⟩, 0, 0⟩) (t := m) o2 rfl w0 (by decide) r (o2.mem (by simp [hg])) (by unfold roomP; simp; omega) fun d1 p1 k2 k3 h3 o3 w3 => ?_
      refine ⟨⟨Hp.sub_rds (o3.get (i := 1) rfl) (ob_rds rfl), trivial⟩, ?_⟩
      refine alloc_ob o3 fun k4 h4 o4 => ?_
      have r4 : Row cSl (ob k4 [Value.slice p1 k2 k3] 27) ⟨some ⟨k4, 0, none⟩, 1, 1⟩ [⟨p1, k2, k3⟩] := row_ob rfl rfl
      have o4' := o4.pull 3 rfl
      refine append_own (s := sl) (t := ⟨some ⟨k4, 0, none⟩, 1, 1⟩) o4' rfl wd (by decide) r4 (o4'.get (i := 1) rfl) (by unfold roomP; simp; omega) fun d5 p5 k5 k6 h5 o5 w5 => ?_
      refine store_ob (vs' := [Value.slice p5 k5 k6, .int .i64 (n : Nat), .bool false]) (cd := cSl) (i := 0) (x := (⟨p5, k5, k6⟩ : Sl)) (o5.pull 3 rfl) rfl rfl (Nat.le_add_left 1 2) fun h6 o6 => ?_
      have o7 : On h6 (ob b [Value.slice p5 k5 k6, .int .i64 (n : Nat), .bool false] e :: d5 :: d1 :: (ds ++ l)) := o6.sublist (by simp)
      have o8 : On h6 ((ob b [Value.slice p5 k5 k6, .int .i64 (n : Nat), .bool false] e :: d5 :: (ds ++ [d1])) ++ l) := by
        refine o7.perm (List.Perm.cons _ (List.Perm.cons _ ?_))
        exact (List.perm_middle.symm).trans (List.Perm.of_eq (List.append_assoc ds [d1] l).symm)
      obtain ⟨o9, o10⟩ := o8.joined
      exact hq _ _ o9 ⟨b, e, ⟨p5, k5, k6⟩, d5, ss ++ [⟨p1, k2, k3⟩], ds ++ [d1], rfl, o10, w5, rr.push w3⟩
  · refine load_ob (cd := cB) (x := shut) os 0 rfl rfl ?_
    refine cond_i (fun e' => hJ _ _ ⟨rfl, by rw [e']; rfl⟩) fun e' => ?_
    refine load_ob (cd := cSl) (x := sl) os 0 rfl rfl ?_
    refine load_ob (cd := cI .i64) (x := (n : Int)) os 0 rfl rfl ?_
    refine hJ _ _ ⟨rfl, ?_⟩
    rw [e', hsl, ← hlen]
    simp
theorem rtake8_ok {p : Option Addr} {n : Nat} {q : List (List Int)} {shut : Bool} {c h : Hp} {l : List Hp} (o : On h (c :: l)) (w : IsRef8 p (n, q, shut) c) {Q : Sl × Bool → Hp → Prop}
    (h0 : q = [] → Q (⟨none, 0, 0⟩, false) h)
    (h1 : ∀ bs q' s d c' h', q = bs :: q' → On h' (c' :: d :: l) → IsRef8 p (n, q', shut) c' → Own (cI .u8) d s bs → Q (s, true) h') : callP Tryz.prog 38 [Value.pointer p] (tupC [cSl, cB]) h Q := by
  obtain ⟨b, e, sl, d, ss, ds, rfl, oc, wd, rr⟩ := w
  dsimp only at oc rr
  refine c38 ?_
  unfold F38
  dsimp only [nilP]
  have os := o.split oc
  have hsl : sl.len = ss.length := wd.1
  have hlen : ss.length = q.length := Owns.len rr
  refine load_ob (cd := cSl) (x := sl) os 0 rfl rfl ?_
  match ds, ss, q, rr, os, hsl, hlen, h0, h1, wd with
  | [], [], [], _, _, hsl, _, h0, _, _ => exact cond_t (by rw [hsl]; rfl) (h0 rfl)
  | d1 :: ds, s1 :: ss, bs :: q, rr, os, hsl, hlen, _, h1, wd =>
      refine cond_f (by rw [hsl]; simp; omega) ?_
      refine load_ob (cd := cSl) (x := sl) os 0 rfl rfl ?_
      refine idx_row wd.row (by omega) (by simp) fun a ha => load_row wd.row (os.get (i := 1) rfl) rfl ha (i := 0) (x := s1) rfl (by simp) ?_
      refine load_ob (cd := cSl) (x := sl) os 0 rfl rfl ?_
      refine ⟨by omega, by rw [hsl]; simp; omega, ?_⟩
      have w2 := wd.from rfl (by decide) (k := 1) (by simp) (z := 1) rfl
      refine store_ob (vs' := [Value.slice (cutA sl.a 1 sl.cap 1) (sl.len - 1) (sl.cap - 1), .int .i64 (n : Nat), .bool shut]) (cd := cSl) (i := 0) (x := (⟨cutA sl.a 1 sl.cap 1, sl.len - 1, sl.cap - 1⟩ : Sl)) os rfl rfl (Nat.le_add_left 1 2) fun h6 o6 => ?_
      have o8 : On h6 ((ob b [Value.slice (cutA sl.a 1 sl.cap 1) (sl.len - 1) (sl.cap - 1), .int .i64 (n : Nat), .bool shut] e :: d :: ds) ++ (d1 :: l)) := by
        refine o6.perm (List.Perm.cons _ (List.Perm.cons _ ?_))
        exact List.perm_middle.symm
      obtain ⟨o9, o10⟩ := o8.joined
      exact h1 bs q s1 d1 _ _ rfl o9 ⟨b, e, ⟨cutA sl.a 1 sl.cap 1, sl.len - 1, sl.cap - 1⟩, d, ss, ds, rfl, o10, w2, rr.2⟩ rr.1
end Go.Proofs.YtmkgcdgpokidjaaGreat
