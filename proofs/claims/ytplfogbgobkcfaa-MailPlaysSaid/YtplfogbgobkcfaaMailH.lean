/- Chapter 8: the document's boxes. -/
import Derived.Test.YtplfogbgobkcfaaMailG
import Derived.Test.YtplfogbgobkcfaaEAA
import Derived.Test.YtplfogbgobkcfaaKeepU
set_option linter.unusedVariables false
namespace Go.Proofs.Ytplfogbgobkcfaa
open Go.Eng

/-- Things of a sort, each in its part. -/
def Fam {B : Type} (R : Option Addr → B → Hp → Prop) (ps : List (Option Addr)) (bs : List B) (cs : List Hp) : Prop :=
  ps.length = bs.length ∧ cs.length = bs.length ∧ ∀ (i : Nat) (p : Option Addr) (b : B) (c : Hp), ps[i]? = some p → bs[i]? = some b → cs[i]? = some c → R p b c
theorem Fam.set {B : Type} {R : Option Addr → B → Hp → Prop} {ps : List (Option Addr)} {bs : List B} {cs : List Hp} (w : Fam R ps bs cs) {i : Nat} {p : Option Addr} {b : B} {c : Hp} (hp : ps[i]? = some p) (hb : R p b c) : Fam R ps (bs.set i b) (cs.set i c) := by
  obtain ⟨h1, h2, h3⟩ := w
  refine ⟨by simpa using h1, by simpa using h2, fun j p' b' c' e1 e2 e3 => ?_⟩
  by_cases hij : i = j
  · subst hij
    rw [hp] at e1
    cases e1
    have hlt : i < bs.length := by rw [← h1]; exact (List.getElem?_eq_some_iff.1 hp).1
    rw [List.getElem?_set_self hlt] at e2
    rw [List.getElem?_set_self (by omega)] at e3
    cases e2; cases e3
    exact hb
  · rw [List.getElem?_set_ne hij] at e2 e3
    exact h3 j p' b' c' e1 e2 e3
theorem Fam.push {B : Type} {R : Option Addr → B → Hp → Prop} {ps : List (Option Addr)} {bs : List B} {cs : List Hp} (w : Fam R ps bs cs) {p : Option Addr} {b : B} {c : Hp} (hb : R p b c) : Fam R (ps ++ [p]) (bs ++ [b]) (cs ++ [c]) := by
  obtain ⟨h1, h2, h3⟩ := w
  refine ⟨by simp [h1], by simp [h2], fun j p' b' c' e1 e2 e3 => ?_⟩
  by_cases hj : j < bs.length
  · rw [List.getElem?_append_left (by omega)] at e1 e2 e3
    exact h3 j p' b' c' e1 e2 e3
  · have hj' : j = bs.length := by
      have := (List.getElem?_eq_some_iff.1 e2).1
      simp at this; omega
    subst hj'
    rw [List.getElem?_append_right (by omega)] at e1 e2 e3
    simp [h1] at e1
    simp at e2
    simp [h2] at e3
    subst e1 e2 e3
    exact hb

/-- The document's box with room for 'n', that holds 'q'. -/
def IsRef8 (p : Option Addr) (b : Nat × List (List Int) × Bool) (c : Hp) : Prop :=
  ∃ bk e sl d ss ds, p = some ⟨bk, 0, none⟩ ∧ On c (ob bk [sv sl, .int .i64 (b.1 : Nat), .bool b.2.2] e :: d :: ds) ∧ Own cSl d sl ss ∧ Owns ds ss b.2.1

theorem rnew8_ok {n : Int} {h : Hp} {l : List Hp} (o : On h l) {Q : Option Addr → Hp → Prop} (h0 : n < 1 ∨ 256 < n → Q none h) (hq : ∀ p c h', 1 ≤ n → n ≤ 256 → On h' (c :: l) → IsRef8 p (n.toNat, [], false) c → Q p h') :
    callP Try.prog 38 [Value.int .i64 n] cP h Q := by
  refine c38 ?_
  unfold F38
  refine join_i (fun t h1 => h1 = h ∧ (t = true → n < 1 ∨ 256 < n) ∧ (t = false → 1 ≤ n ∧ n ≤ 256)) ?_ fun J hJ => ?_
  · rintro t h1 ⟨rfl, ht, hf⟩
    refine cond_i (fun e => h0 (ht e)) fun e => ?_
    obtain ⟨hn1, hn2⟩ := hf e
    refine alloc_ob o fun k1 h2 o2 => ?_
    have o3 : On h2 ([ob k1 [Value.slice none 0 0, Value.int .i64 n, .bool false] 76, Hp.emp] ++ l) := o2.emp.swap
    obtain ⟨o4, o5⟩ := o3.joined
    refine hq _ _ _ hn1 hn2 o4 ⟨k1, 76, ⟨none, 0, 0⟩, Hp.emp, [], [], rfl, ?_, Own.nil _, trivial⟩
    dsimp only
    rw [show ((n.toNat : Nat) : Int) = n by omega]
    exact o5
  · refine cond_d (fun e => hJ _ _ ⟨rfl, fun _ => .inl e, fun h => by cases h⟩) fun e => hJ _ _ ⟨rfl, fun h => .inr (by simpa using h), fun h => ⟨by omega, by simpa using h⟩⟩

theorem rput8_ok {p : Option Addr} {n : Nat} {q : List (List Int)} {shut : Bool} {c g h : Hp} {l : List Hp} {m : Sl} {bs : List Int} (o : On h (c :: l)) (w : IsRef8 p (n, q, shut) c) (hg : g ∈ l)
    (r : Row (cI .u8) g m bs) (hl : bs.length ≤ 1000000) (hql : q.length ≤ 1000000) {Q : Bool → Hp → Prop}
    (hq : ∀ c' h', On h' (c' :: l) → IsRef8 p (n, (bif !shut && decide (q.length < n) then q ++ [bs] else q), shut) c' → Q (!shut && decide (q.length < n)) h') :
    callP Try.prog 40 [Value.pointer p, Value.slice m.a m.len m.cap] cB h Q := by
  have w' := w
  obtain ⟨b, e, sl, d, ss, ds, rfl, oc, wd, rr⟩ := w
  dsimp only at oc rr
  refine c40 ?_
  unfold F40
  dsimp only [nilP]
  have os := o.split oc
  have hlen : q.length = ss.length := (Owns.len rr).symm
  have hsl : sl.len = ss.length := wd.1
  refine join_i (fun t h1 => h1 = h ∧ t = (shut || decide (n ≤ q.length))) ?_ fun J hJ => ?_
  · rintro t h1 ⟨rfl, rfl⟩
    refine cond_i (fun e' => ?_) fun e' => ?_
    · have hb : (!shut && decide (q.length < n)) = false := by
        cases shut
        · simp at e'; simp; omega
        · rfl
      have := hq c _ o
      rw [hb] at this
      exact this w'
    · have hsh : shut = false := by cases shut <;> simp_all
      subst hsh
      have hn : q.length < n := by simp at e'; omega
      have hb : (!false && decide (q.length < n)) = true := by simp [hn]
      rw [hb] at hq
      refine load_ob (cd := cSl) (x := sl) os 0 rfl rfl ?_
      refine alloc_ob os fun k1 h2 o2 => ?_
      have w0 : Own (cI .u8) (ob k1 [] 5) ⟨some ⟨k1, 0, none⟩, 0, 0⟩ [] := own_ob (cd := cI .u8) (xs := []) (rest := []) rfl rfl rfl
      refine append_own (g := g) (s := ⟨some ⟨k1, 0, none⟩, 0, 0⟩) (t := m) o2 rfl w0 (by decide) r (o2.mem (by simp [hg])) (by unfold roomP; simp; omega) fun d1 p1 k2 k3 h3 o3 w3 => ?_
      refine ⟨⟨Hp.sub_rds (o3.get (i := 1) rfl) (ob_rds rfl), trivial⟩, ?_⟩
      refine alloc_ob o3 fun k4 h4 o4 => ?_
      have r4 : Row cSl (ob k4 [Value.slice p1 k2 k3] 23) ⟨some ⟨k4, 0, none⟩, 1, 1⟩ [⟨p1, k2, k3⟩] := row_ob rfl rfl
      have o4' := o4.pull 3 rfl
      refine append_own (s := sl) (t := ⟨some ⟨k4, 0, none⟩, 1, 1⟩) o4' rfl wd (by decide) r4 (o4'.get (i := 1) rfl) (by unfold roomP; simp; omega) fun d5 p5 k5 k6 h5 o5 w5 => ?_
      refine store_ob (vs' := [Value.slice p5 k5 k6, .int .i64 (n : Nat), .bool false]) (cd := cSl) (i := 0) (x := (⟨p5, k5, k6⟩ : Sl)) (o5.pull 3 rfl) rfl rfl (Nat.le_add_left 1 2) fun h6 o6 => ?_
      have o7 : On h6 (ob b [Value.slice p5 k5 k6, .int .i64 (n : Nat), .bool false] e :: d5 :: d1 :: (ds ++ l)) := o6.sublist (by simp)
      have o8 : On h6 ((ob b [Value.slice p5 k5 k6, .int .i64 (n : Nat), .bool false] e :: d5 :: (ds ++ [d1])) ++ l) := by
        refine o7.perm (List.Perm.cons _ (List.Perm.cons _ ?_))
        exact (List.perm_middle.symm).trans (List.Perm.of_eq (List.append_assoc ds [d1] l).symm)
      obtain ⟨o9, o10⟩ := o8.joined
      exact hq _ _ o9 ⟨b, e, ⟨p5, k5, k6⟩, d5, ss ++ [⟨p1, k2, k3⟩], ds ++ [d1], rfl, o10, w5, rr.push w3⟩
  · refine load_ob (cd := cB) (x := shut) os 0 rfl rfl ?_
    refine cond_i (fun e' => hJ _ _ ⟨rfl, by rw [e']; rfl⟩) fun e' => ?_
    refine load_ob (cd := cSl) (x := sl) os 0 rfl rfl ?_
    refine load_ob (cd := cI .i64) (x := (n : Int)) os 0 rfl rfl ?_
    refine hJ _ _ ⟨rfl, ?_⟩
    rw [e', hsl, ← hlen]
    simp

theorem rtake8_ok {p : Option Addr} {n : Nat} {q : List (List Int)} {shut : Bool} {c h : Hp} {l : List Hp} (o : On h (c :: l)) (w : IsRef8 p (n, q, shut) c) {Q : Sl × Bool → Hp → Prop}
    (h0 : q = [] → Q (⟨none, 0, 0⟩, false) h)
    (h1 : ∀ bs q' s d c' h', q = bs :: q' → On h' (c' :: d :: l) → IsRef8 p (n, q', shut) c' → Own (cI .u8) d s bs → Q (s, true) h') : callP Try.prog 41 [Value.pointer p] (tupC [cSl, cB]) h Q := by
  obtain ⟨b, e, sl, d, ss, ds, rfl, oc, wd, rr⟩ := w
  dsimp only at oc rr
  refine c41 ?_
  unfold F41
  dsimp only [nilP]
  have os := o.split oc
  have hsl : sl.len = ss.length := wd.1
  have hlen : ss.length = q.length := Owns.len rr
  refine load_ob (cd := cSl) (x := sl) os 0 rfl rfl ?_
  match ds, ss, q, rr, os, hsl, hlen, h0, h1, wd with
  | [], [], [], _, _, hsl, _, h0, _, _ => exact cond_t (by rw [hsl]; rfl) (h0 rfl)
  | d1 :: ds, s1 :: ss, bs :: q, rr, os, hsl, hlen, _, h1, wd =>
      refine cond_f (by rw [hsl]; simp; omega) ?_
      refine load_ob (cd := cSl) (x := sl) os 0 rfl rfl ?_
      refine idx_row wd.row (by omega) (by simp) fun a ha => load_row wd.row (os.get (i := 1) rfl) rfl ha (i := 0) (x := s1) rfl (by simp) ?_
      refine load_ob (cd := cSl) (x := sl) os 0 rfl rfl ?_
      refine ⟨by omega, by rw [hsl]; simp; omega, ?_⟩
      have w2 := wd.from rfl (by decide) (k := 1) (by simp) (z := 1) rfl
      refine store_ob (vs' := [Value.slice (cutA sl.a 1 sl.cap 1) (sl.len - 1) (sl.cap - 1), .int .i64 (n : Nat), .bool shut]) (cd := cSl) (i := 0) (x := (⟨cutA sl.a 1 sl.cap 1, sl.len - 1, sl.cap - 1⟩ : Sl)) os rfl rfl (Nat.le_add_left 1 2) fun h6 o6 => ?_
      have o8 : On h6 ((ob b [Value.slice (cutA sl.a 1 sl.cap 1) (sl.len - 1) (sl.cap - 1), .int .i64 (n : Nat), .bool shut] e :: d :: ds) ++ (d1 :: l)) := by
        refine o6.perm (List.Perm.cons _ (List.Perm.cons _ ?_))
        exact List.perm_middle.symm
      obtain ⟨o9, o10⟩ := o8.joined
      exact h1 bs q s1 d1 _ _ rfl o9 ⟨b, e, ⟨cutA sl.a 1 sl.cap 1, sl.len - 1, sl.cap - 1⟩, d, ss, ds, rfl, o10, w2, rr.2⟩ rr.1

theorem rfirst8_ok {p0 : Sl} {d h : Hp} {cs l : List Hp} {ps : List (Option Addr)} {bs : List (Nat × List (List Int) × Bool)} (o : On h (cs ++ l)) (hd : d ∈ l) (r : Row cP d p0 ps) (w : Fam IsRef8 ps bs cs) (hl : ps.length ≤ 1000)
    {Q : Sl × Int × Bool → Hp → Prop} (h0 : firstOf bs 0 = none → Q (⟨none, 0, 0⟩, 0, false) h)
    (h1 : ∀ i n m q t s d1 cs' h', firstOf bs 0 = some i → bs[i]? = some (n, m :: q, t) → On h' (cs' ++ d1 :: l) → Fam IsRef8 ps (bs.set i (n, q, t)) cs' → Own (cI .u8) d1 s m → Q (s, i, true) h') :
    callP Try.prog 39 [Value.slice p0.a p0.len p0.cap] (tupC [cSl, cI .i64, cB]) h Q := by
  obtain ⟨w1, w2, w3⟩ := id w
  refine c39 ?_
  unfold F39
  refine loop_i (fun z h' => ∃ i : Nat, z = i ∧ i ≤ ps.length ∧ h' = h ∧ ∀ j, j < i → ∀ x, bs[j]? = some x → x.2.1 = []) (fun z => ps.length - z.toNat) ⟨0, rfl, Nat.zero_le _, rfl, fun j hj => by omega⟩ ?_
  rintro J z h' again ⟨i, rfl, hle, rfl, hbef⟩
  have hdl : d.sub h' := o.mem (List.mem_append_right _ hd)
  refine cond_d (fun hlt => ?_) fun hge => ?_
  · rw [r.1] at hlt
    have hlt : i < ps.length := by omega
    have hp : ps[i]? = some ps[i] := List.getElem?_eq_getElem hlt
    have hb : bs[i]? = some bs[i] := List.getElem?_eq_getElem (by omega)
    have hc : cs[i]? = some cs[i] := List.getElem?_eq_getElem (by omega)
    have wi := w3 i _ _ _ hp hb hc
    refine idx_row r (by omega) (by omega) fun a ha => load_row r hdl rfl ha (i := i) hp (by simp) ?_
    refine rtake8_ok (n := bs[i].1) (q := bs[i].2.1) (shut := bs[i].2.2) (o.at' i hc) wi (fun hq => ?_) fun m q s d1 c' h'' hq o' w' r' => ?_
    · refine cond_f rfl (again _ _ ⟨i + 1, w64n (by omega), by omega, rfl, fun j hj x hx => ?_⟩ (by rw [w64n (by omega)]; omega))
      by_cases hji : j < i
      · exact hbef j hji x hx
      · have : j = i := by omega
        subst this
        rw [hb] at hx; cases hx
        exact hq
    · refine cond_t rfl ?_
      have hbe : bs[i] = (bs[i].1, m :: q, bs[i].2.2) := by rw [← hq]
      refine h1 i bs[i].1 m q bs[i].2.2 s d1 (cs.set i c') h'' ?_ (by rw [hb]; exact congrArg some hbe) (On.back' (o'.perm (List.Perm.cons _ List.perm_middle.symm)) (by omega)) (w.set hp w') r'
      have := firstOf_some bs 0 i _ hb (by rw [hq]; simp) hbef
      simpa using this
  · rw [r.1] at hge
    refine h0 (firstOf_none bs 0 fun b hb => ?_)
    obtain ⟨j, hj⟩ := List.getElem?_of_mem hb
    exact hbef j (by have := (List.getElem?_eq_some_iff.1 hj).1; omega) b hj
end Go.Proofs.Ytplfogbgobkcfaa
