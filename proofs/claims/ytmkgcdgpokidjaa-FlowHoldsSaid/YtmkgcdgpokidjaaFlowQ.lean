/- Chapter 7: flows, step by step. -/
import Derived.Test.YtmkgcdgpokidjaaFlowP
set_option linter.unusedVariables false
namespace Go.Proofs.Ytmkgcdgpokidjaa
open Go.Eng

theorem rput6_any {p0 : Sl} {g h : Hp} {l : List Hp} {body : List Int} (o : On h l) (hg : g ∈ l) (r : Row (cI .u8) g p0 body) (hb : Bytes body) {Q : Sl × Bool → Hp → Prop}
    (h0 : 80 < body.length → Q (⟨none, 0, 0⟩, false) h) (h1 : body.length ≤ 80 → ∀ s d h', On h' (d :: l) → Own (cI .u8) d s (frameV body) → Q (s, true) h') : callP Try.prog 71 [Value.slice p0.a p0.len p0.cap] (tupC [cSl, cB]) h Q := by
  by_cases h80 : body.length ≤ 80
  · exact rput6_ok o hg r hb (by omega) h0 h1
  · have hl := r.1
    refine c71 ?_
    unfold F71
    exact cond_d (fun _ => h0 (by omega)) fun h => by omega
theorem begins_ok {p0 : Sl} {g h : Hp} {bs : List Int} (hg : g.sub h) (r : Row (cI .u8) g p0 bs) (hb : Bytes bs) (hn : bs.length ≤ 1000000) {Q : Bool → Hp → Prop} (hq : Q (mayV bs) h) : callP Try.prog 131 [Value.slice p0.a p0.len p0.cap] cB h Q := by
  refine c131 ?_
  unfold F131
  have hl := r.1
  match bs, r, hb, hl, hq, hn with
  | [], r, hb, hl, hq, _ =>
    refine join_i (fun t h1 => h1 = h ∧ t = true) ?_ fun J hJ => cond_t (by rw [hl]; rfl) (hJ _ _ ⟨rfl, rfl⟩)
    rintro t h1 ⟨rfl, rfl⟩
    exact cond_t rfl hq
  | [x], r, hb, hl, hq, _ =>
    refine join_i (fun t h1 => h1 = h ∧ t = (x != 197)) ?_ fun J hJ => cond_f (by rw [hl]; rfl) ?_
    · rintro t h1 ⟨rfl, rfl⟩
      refine cond_i (fun e => ?_) fun e => cond_t (by rw [hl]; rfl) ?_
      · have : mayV [x] = false := by show (x == 197) = false; simpa using e
        rw [this] at hq
        exact hq
      · have : mayV [x] = true := by show (x == 197) = true; simpa using e
        rw [this] at hq
        exact hq
    · exact idx_row r (by omega) (by simp) fun a ha => load_row r hg rfl ha (i := 0) (m := 0) rfl rfl (hJ _ _ ⟨rfl, rfl⟩)
  | x :: y :: t, r, hb, hl, hq, hn =>
    have hy := hb y (by simp)
    have hl : p0.len = t.length + 2 := hl
    have hn : t.length + 2 ≤ 1000000 := hn
    have hm : mayV (x :: y :: t) = (x == 197 && decide (y ≤ 80) && decide ((t.length : Int) < y + 4)) := rfl
    rw [hm] at hq
    refine join_i (fun t h1 => h1 = h ∧ t = (x != 197)) ?_ fun J hJ => cond_f (by rw [hl]; simp; omega) ?_
    · rintro t h1 ⟨rfl, rfl⟩
      refine cond_i (fun e => ?_) fun e => cond_f (by rw [hl]; simp; omega) ?_
      · rw [show (x == 197) = false by simpa using e] at hq
        exact hq
      · rw [show (x == 197) = true by simpa using e, Bool.true_and] at hq
        refine idx_row r (by omega) (by simp; omega) fun a ha => load_row r hg rfl ha (i := 1) (m := 1) rfl rfl ?_
        refine cond_d (fun h80 => ?_) fun h80 => ?_
        · rw [decide_eq_true h80, Bool.true_and] at hq
          refine idx_row r (by omega) (by simp; omega) fun a ha => load_row r hg rfl ha (i := 1) (m := 1) rfl rfl ?_
          rw [w64 (n := y) (by omega) (by omega), w64 (n := 6 + y) (by omega) (by omega), hl]
          have e : decide (((t.length + 2 : Nat) : Int) < 6 + y) = decide ((t.length : Int) < y + 4) := decide_eq_decide.2 (by omega)
          rw [e]
          exact hq
        · rw [decide_eq_false h80, Bool.false_and] at hq
          exact hq
    · exact idx_row r (by omega) (by simp; omega) fun a ha => load_row r hg rfl ha (i := 0) (m := 0) rfl rfl (hJ _ _ ⟨rfl, rfl⟩)
theorem may_ok {p0 : Sl} {g h : Hp} {bs : List Int} (hg : g.sub h) (r : Row (cI .u8) g p0 bs) (hb : Bytes bs) (hn : bs.length ≤ 1000000) {Q : Bool → Hp → Prop} (hq : Q (mayV bs) h) : callP Try.prog 132 [Value.slice p0.a p0.len p0.cap] cB h Q := by
  refine c132 ?_
  unfold F132
  have hl := r.1
  match bs, r, hb, hl, hq, hn with
  | [], r, hb, hl, hq, _ =>
    refine join_i (fun t h1 => h1 = h ∧ t = true) ?_ fun J hJ => cond_t (by rw [hl]; rfl) (hJ _ _ ⟨rfl, rfl⟩)
    rintro t h1 ⟨rfl, rfl⟩
    exact cond_t rfl hq
  | [x], r, hb, hl, hq, _ =>
    refine join_i (fun t h1 => h1 = h ∧ t = (x != 197)) ?_ fun J hJ => cond_f (by rw [hl]; rfl) ?_
    · rintro t h1 ⟨rfl, rfl⟩
      refine cond_i (fun e => ?_) fun e => cond_t (by rw [hl]; rfl) ?_
      · have : mayV [x] = false := by show (x == 197) = false; simpa using e
        rw [this] at hq
        exact hq
      · have : mayV [x] = true := by show (x == 197) = true; simpa using e
        rw [this] at hq
        exact hq
    · exact idx_row r (by omega) (by simp) fun a ha => load_row r hg rfl ha (i := 0) (m := 0) rfl rfl (hJ _ _ ⟨rfl, rfl⟩)
  | x :: y :: t, r, hb, hl, hq, hn =>
    have hy := hb y (by simp)
    have hl : p0.len = t.length + 2 := hl
    have hn : t.length + 2 ≤ 1000000 := hn
    have hm : mayV (x :: y :: t) = (x == 197 && decide (y ≤ 80) && decide ((t.length : Int) < y + 4)) := rfl
    rw [hm] at hq
    refine join_i (fun t h1 => h1 = h ∧ t = (x != 197)) ?_ fun J hJ => cond_f (by rw [hl]; simp; omega) ?_
    · rintro t h1 ⟨rfl, rfl⟩
      refine cond_i (fun e => ?_) fun e => cond_f (by rw [hl]; simp; omega) ?_
      · rw [show (x == 197) = false by simpa using e] at hq
        exact hq
      · rw [show (x == 197) = true by simpa using e, Bool.true_and] at hq
        refine idx_row r (by omega) (by simp; omega) fun a ha => load_row r hg rfl ha (i := 1) (m := 1) rfl rfl ?_
        rw [w64 (n := y) (by omega) (by omega)]
        refine cond_d (fun h80 => ?_) fun h80 => ?_
        · rw [decide_eq_true h80, Bool.true_and] at hq
          refine idx_row r (by omega) (by simp; omega) fun a ha => load_row r hg rfl ha (i := 1) (m := 1) rfl rfl ?_
          rw [w64 (n := y) (by omega) (by omega), w64 (n := 6 + y) (by omega) (by omega), hl]
          have e : decide (((t.length + 2 : Nat) : Int) < 6 + y) = decide ((t.length : Int) < y + 4) := decide_eq_decide.2 (by omega)
          rw [e]
          exact hq
        · rw [decide_eq_false h80, Bool.false_and] at hq
          exact hq
    · exact idx_row r (by omega) (by simp; omega) fun a ha => load_row r hg rfl ha (i := 0) (m := 0) rfl rfl (hJ _ _ ⟨rfl, rfl⟩)
theorem same7_ok {p0 p1 : Sl} {g0 g1 h : Hp} {ss0 ss1 : List Sl} {xs ys : List (List Int)} (h0 : g0.sub h) (h1 : g1.sub h) (r0 : Row cSl g0 p0 ss0) (r1 : Row cSl g1 p1 ss1) (rr0 : Rows2 g0 ss0 xs) (rr1 : Rows2 g1 ss1 ys) (hb0 : ∀ x ∈ xs, Bytes x) (hb1 : ∀ y ∈ ys, Bytes y) (hl : xs.length ≤ 1000000)
    {Q : Bool → Hp → Prop} (hq : Q (decide (xs = ys)) h) : callP Try.prog 76 [Value.slice p0.a p0.len p0.cap, Value.slice p1.a p1.len p1.cap] cB h Q := by
  refine c76 ?_
  unfold F76
  have l0 := r0.1
  have l1 := r1.1
  have m0 := rr0.len
  have m1 := rr1.len
  refine cond_i (fun e => ?_) fun e => ?_
  · have : xs ≠ ys := by rintro rfl; simp at e; omega
    rw [decide_eq_false this] at hq
    exact hq
  · have hlen : xs.length = ys.length := by simp at e; omega
    refine loop_i (fun z h' => ∃ i : Nat, z = i ∧ i ≤ xs.length ∧ xs.take i = ys.take i ∧ h' = h) (fun z => xs.length - z.toNat) ⟨0, rfl, Nat.zero_le _, rfl, rfl⟩ ?_
    rintro J z h' again ⟨i, rfl, hle, htk, rfl⟩
    refine cond_d (fun hlt => ?_) fun hge => ?_
    · have hi : i < xs.length := by omega
      have a0 : ss0[i]? = some ss0[i] := List.getElem?_eq_getElem (by omega)
      have a1 : ss1[i]? = some ss1[i] := List.getElem?_eq_getElem (by omega)
      obtain ⟨x, hx, rx⟩ := rr0.get i _ a0
      obtain ⟨y, hy, ry⟩ := rr1.get i _ a1
      refine idx_row r0 (Int.natCast_nonneg i) (by omega) fun a ha => idx_row r1 (Int.natCast_nonneg i) (by omega) fun b hb => ?_
      refine load_row r0 h0 rfl ha (i := i) a0 (by simp) (str_row rx h0 ?_)
      refine load_row r1 h1 rfl hb (i := i) a1 (by simp) (str_row ry h1 ?_)
      rw [strEq_mk (hb0 x (List.mem_of_getElem? hx)) (hb1 y (List.mem_of_getElem? hy))]
      refine cond_i (fun hne => ?_) fun heq => ?_
      · have : xs ≠ ys := by rintro rfl; rw [hx] at hy; cases hy; simp at hne
        rw [decide_eq_false this] at hq
        exact hq
      · have hxy : x = y := by simpa using heq
        subst hxy
        refine again _ _ ⟨i + 1, w64n (by omega), by omega, ?_, rfl⟩ (by rw [w64n (by omega)]; omega)
        rw [List.take_add_one, List.take_add_one, htk, hx, hy]
    · have : xs = ys := by
        rw [List.take_of_length_le (by omega), List.take_of_length_le (by omega)] at htk
        exact htk
      rw [decide_eq_true this] at hq
      exact hq

/-- A flow that holds these bytes, and lost so many. -/
def IsFlow (p : Option Addr) (held : List Int) (lost : Nat) (c : Hp) (e : TypeId) : Prop :=
  ∃ b s d, p = some ⟨b, 0, none⟩ ∧ On c [ob b [.slice s.a s.len s.cap, .int .i64 lost] e, d] ∧ Own (cI .u8) d s held
theorem new7_of {h : Hp} {l : List Hp} {k : Nat} {e : TypeId} (o : On h (ob k [Value.slice none 0 0, Value.int .i64 0] e :: l)) : ∃ c, On h (c :: l) ∧ IsFlow (some ⟨k, 0, none⟩) [] 0 c e := by
  have o2 : On h ([ob k [Value.slice none 0 0, Value.int .i64 0] e, Hp.emp] ++ l) := o.emp.swap
  obtain ⟨o3, o4⟩ := o2.joined
  exact ⟨_, o3, k, ⟨none, 0, 0⟩, Hp.emp, rfl, o4, Own.nil _⟩
theorem new7_ok {h : Hp} {l : List Hp} (o : On h l) {Q : Option Addr → Hp → Prop} (hq : ∀ p c h', On h' (c :: l) → IsFlow p [] 0 c 158 → Q p h') : callP Try.prog 75 [] cP h Q := by
  refine c75 ?_
  unfold F75
  refine alloc_ob o fun k1 h1 o1 => ?_
  obtain ⟨c, o2, w⟩ := new7_of o1
  exact hq _ c h1 o2 w
theorem more_ok {A dO r dB h : Hp} {l : List Hp} {z s : Sl} {sls : List Sl} {outs : List (List Int)} {body : List Int} (o : On h (dB :: A :: dO :: r :: l)) (wo : Own cSl dO z sls) (rr : Rows2 r sls outs) (wb : Own (cI .u8) dB s body) (hn : sls.length ≤ 1000000)
    {K : Option Addr → Nat → Nat → Hp → Prop} (hk : ∀ p n m d' r' h', On h' (A :: d' :: r' :: l) → Own cSl d' ⟨p, n, m⟩ (sls ++ [s]) → Rows2 r' (sls ++ [s]) (outs ++ [body]) → K p n m h') :
    allocP (Obj.cells { toList := [Value.slice s.a s.len s.cap] } 25) h fun k3 h6 => appendP cSl 25 24 z.a z.len z.cap (some { block := k3, off := 0 }) 1 h6 K := by
  refine alloc_ob o fun k3 h6 o6 => ?_
  have r3 : Row cSl (ob k3 [Value.slice s.a s.len s.cap] 25) ⟨some ⟨k3, 0, none⟩, 1, 1⟩ [s] := row_ob rfl rfl
  have o7 : On h6 (dO :: ob k3 [Value.slice s.a s.len s.cap] 25 :: dB :: A :: r :: l) := o6.pick [3, 0, 1, 2, 4] 5 (by decide) (by decide)
  refine append_own (g := ob k3 [Value.slice s.a s.len s.cap] 25) (s := z) (t := ⟨some ⟨k3, 0, none⟩, 1, 1⟩) o7 rfl wo (by decide) r3 (o7.mem (by simp)) (by unfold roomP; simp; omega) fun d8 p8 n8 m8 h8 o8 w8 => ?_
  have o9 : On h8 ([r, dB] ++ A :: d8 :: l) := o8.pick [4, 2, 3, 0] 5 (by decide) (by decide)
  obtain ⟨oa, ob⟩ := o9.joined
  refine hk p8 n8 m8 d8 _ h8 (oa.pick [1, 2, 0] 3 (by decide) (by decide)) w8 (All2.app (Rows2.sub (ob.mem (by simp)) rr) ⟨wb.row.sub (ob.mem (by simp)), trivial⟩)
end Go.Proofs.Ytmkgcdgpokidjaa
