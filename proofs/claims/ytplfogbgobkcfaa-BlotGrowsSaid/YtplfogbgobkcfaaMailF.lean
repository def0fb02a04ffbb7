/- Chapter 8: several boxes. -/
import Derived.Test.YtplfogbgobkcfaaMailS
set_option linter.unusedVariables false
namespace Go.Proofs.Ytplfogbgobkcfaa
open Go.Eng

/-- Box by box: room, what it holds, is it shut. -/
def Boxes (ps : List (Option Addr)) (bs : List (Nat × List (List Int) × Bool)) (cs : List Hp) : Prop :=
  ps.length = bs.length ∧ cs.length = bs.length ∧ ∀ (i : Nat) (p : Option Addr) (b : Nat × List (List Int) × Bool) (c : Hp), ps[i]? = some p → bs[i]? = some b → cs[i]? = some c → IsBox p b.1 b.2.1 b.2.2 c
theorem Boxes.set {ps : List (Option Addr)} {bs : List (Nat × List (List Int) × Bool)} {cs : List Hp} (w : Boxes ps bs cs) {i : Nat} {p : Option Addr} {b : Nat × List (List Int) × Bool} {c : Hp} (hp : ps[i]? = some p) (hb : IsBox p b.1 b.2.1 b.2.2 c) :
    Boxes ps (bs.set i b) (cs.set i c) := by
  obtain ⟨h1, h2, h3⟩ := w
  refine ⟨by simpa using h1, by simpa using h2, fun j p' b' c' e1 e2 e3 => ?_⟩
  by_cases hij : i = j
  · subst hij
    rw [hp] at e1
    cases e1
    have hlt : i < bs.length := by rw [← h1]; exact (List.getElem?_eq_some_iff.1 hp).1
    rw [List.getElem?_set_self hlt] at e2
    rw [List.getElem?_set_self (by omega)] at e3
    cases e2; cases e3
    exact hb
  · rw [List.getElem?_set_ne hij] at e2 e3
    exact h3 j p' b' c' e1 e2 e3
theorem Boxes.push {ps : List (Option Addr)} {bs : List (Nat × List (List Int) × Bool)} {cs : List Hp} (w : Boxes ps bs cs) {p : Option Addr} {b : Nat × List (List Int) × Bool} {c : Hp} (hb : IsBox p b.1 b.2.1 b.2.2 c) : Boxes (ps ++ [p]) (bs ++ [b]) (cs ++ [c]) := by
  obtain ⟨h1, h2, h3⟩ := w
  refine ⟨by simp [h1], by simp [h2], fun j p' b' c' e1 e2 e3 => ?_⟩
  by_cases hj : j < bs.length
  · rw [List.getElem?_append_left (by omega)] at e1 e2 e3
    exact h3 j p' b' c' e1 e2 e3
  · have hj' : j = bs.length := by
      have := (List.getElem?_eq_some_iff.1 e2).1
      simp at this; omega
    subst hj'
    rw [List.getElem?_append_right (by omega)] at e1 e2 e3
    simp [h1] at e1
    simp at e2
    simp [h2] at e3
    subst e1 e2 e3
    exact hb

/-- The first box that holds something. -/
def firstOf : List (Nat × List (List Int) × Bool) → Nat → Option Nat
  | [], _ => none
  | b :: bs, i => match b.2.1 with
    | [] => firstOf bs (i + 1)
    | _ :: _ => some i
theorem firstOf_none : ∀ (bs : List (Nat × List (List Int) × Bool)) (k : Nat), (∀ b ∈ bs, b.2.1 = []) → firstOf bs k = none
  | [], _, _ => rfl
  | b :: bs, k, h => by
    unfold firstOf
    rw [h b (by simp)]
    exact firstOf_none bs _ fun x hx => h x (by simp [hx])
theorem firstOf_some : ∀ (bs : List (Nat × List (List Int) × Bool)) (k i : Nat) (b : Nat × List (List Int) × Bool), bs[i]? = some b → b.2.1 ≠ [] → (∀ j, j < i → ∀ x, bs[j]? = some x → x.2.1 = []) → firstOf bs k = some (k + i)
  | [], _, _, _, h, _, _ => by cases h
  | b :: bs, k, 0, x, h, hne, _ => by
    simp at h; subst h
    unfold firstOf
    cases hb : b.2.1 with
    | nil => exact absurd hb hne
    | cons _ _ => rfl
  | b :: bs, k, i + 1, x, h, hne, hlt => by
    unfold firstOf
    rw [hlt 0 (by omega) b rfl]
    have := firstOf_some bs (k + 1) i x (by simpa using h) hne fun j hj y hy => hlt (j + 1) (by omega) y (by simpa using hy)
    rw [show k + (i + 1) = k + 1 + i by omega]
    exact this

theorem first_ok {p0 : Sl} {d h : Hp} {cs l : List Hp} {ps : List (Option Addr)} {bs : List (Nat × List (List Int) × Bool)} (o : On h (cs ++ l)) {k : Nat} (hk : l[k]? = some d) (r : Row cP d p0 ps) (w : Boxes ps bs cs) (hl : ps.length ≤ 1000)
    {Q : Sl × Int × Bool → Hp → Prop} (h0 : firstOf bs 0 = none → Q (⟨none, 0, 0⟩, 0, false) h)
    (h1 : ∀ i n m q t s d1 cs' h', firstOf bs 0 = some i → bs[i]? = some (n, m :: q, t) → On h' (cs' ++ d1 :: l) → Boxes ps (bs.set i (n, q, t)) cs' → Own (cI .u8) d1 s m → Q (s, i, true) h') :
    callP Try.prog 28 [Value.slice p0.a p0.len p0.cap] (tupC [cSl, cI .i64, cB]) h Q := by
  obtain ⟨w1, w2, w3⟩ := id w
  refine c28 ?_
  unfold F28
  refine loop_i (fun z h' => ∃ i : Nat, z = i ∧ i ≤ ps.length ∧ h' = h ∧ ∀ j, j < i → ∀ x, bs[j]? = some x → x.2.1 = []) (fun z => ps.length - z.toNat) ⟨0, rfl, Nat.zero_le _, rfl, fun j hj => by omega⟩ ?_
  rintro J z h' again ⟨i, rfl, hle, rfl, hbef⟩
  have hdl : d.sub h' := o.mem (List.mem_append_right _ (List.mem_of_getElem? hk))
  refine cond_d (fun hlt => ?_) fun hge => ?_
  · rw [r.1] at hlt
    have hlt : i < ps.length := by omega
    have hp : ps[i]? = some ps[i] := List.getElem?_eq_getElem hlt
    have hb : bs[i]? = some bs[i] := List.getElem?_eq_getElem (by omega)
    have hc : cs[i]? = some cs[i] := List.getElem?_eq_getElem (by omega)
    have wi := w3 i _ _ _ hp hb hc
    refine idx_row r (by omega) (by omega) fun a ha => load_row r hdl rfl ha (i := i) hp (by simp) ?_
    refine take_ok (o.at' i hc) wi (fun hq => ?_) fun m q s d1 c' h'' hq o' w' r' => ?_
    · refine cond_f rfl (again _ _ ⟨i + 1, w64n (by omega), by omega, rfl, fun j hj x hx => ?_⟩ (by rw [w64n (by omega)]; omega))
      by_cases hji : j < i
      · exact hbef j hji x hx
      · have : j = i := by omega
        subst this
        rw [hb] at hx; cases hx
        exact hq
    · refine cond_t rfl ?_
      have hbe : bs[i] = (bs[i].1, m :: q, bs[i].2.2) := by rw [← hq]
      refine h1 i bs[i].1 m q bs[i].2.2 s d1 (cs.set i c') h'' ?_ (by rw [hb]; exact congrArg some hbe) (On.back' (o'.perm (List.Perm.cons _ List.perm_middle.symm)) (by omega)) (w.set hp w') r'
      have := firstOf_some bs 0 i _ hb (by rw [hq]; simp) hbef
      simpa using this
  · rw [r.1] at hge
    refine h0 (firstOf_none bs 0 fun b hb => ?_)
    obtain ⟨j, hj⟩ := List.getElem?_of_mem hb
    exact hbef j (by have := (List.getElem?_eq_some_iff.1 hj).1; omega) b hj
end Go.Proofs.Ytplfogbgobkcfaa
