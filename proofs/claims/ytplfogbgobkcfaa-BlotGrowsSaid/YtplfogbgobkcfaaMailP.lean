/- Chapter 8: what mail's functions say of parts of the heap. -/
import Derived.Test.YtplfogbgobkcfaaSumU
set_option linter.unusedVariables false
namespace Go.Proofs.Ytplfogbgobkcfaa
open Go.Eng

/-- A slice as a value. -/
def sv (s : Sl) : Value := .slice s.a s.len s.cap
theorem clone_ok {p0 : Sl} {g h : Hp} {l : List Hp} {bs : List Int} (o : On h l) {i : Nat} (hi : l[i]? = some g) (r : Row (cI .u8) g p0 bs) (hl : bs.length ≤ 1000000) {Q : Sl → Hp → Prop}
    (hq : ∀ s d h', On h' (d :: l) → Own (cI .u8) d s bs → Q s h') : callP Try.prog 56 [Value.slice p0.a p0.len p0.cap] cSl h Q := by
  refine c56 ?_
  unfold F56
  refine cond_i (fun hn => ?_) fun _ => ?_
  · have ha : p0.a = none := Option.isNone_iff_eq_none.1 hn
    have : bs = [] := by
      have := r.2
      rw [ha] at this
      exact this
    subst this
    exact hq _ Hp.emp h o.emp (Own.nil _)
  · refine alloc_ob o fun k1 h1 o1 => ?_
    have w0 : Own (cI .u8) (ob k1 [] 5) ⟨some ⟨k1, 0, none⟩, 0, 0⟩ [] := own_ob (cd := cI .u8) (xs := []) (rest := []) rfl rfl rfl
    exact append_own (g := g) (s := ⟨some ⟨k1, 0, none⟩, 0, 0⟩) (t := p0) o1 rfl w0 (by decide) r (o1.get (i := i + 1) (by simpa using hi)) (by unfold roomP; simp; omega) fun c p k2 k3 h3 o3 w3 => hq _ c _ o3 w3

/-- Rows of one's own, each in its part. -/
def Owns : List Hp → List Sl → List (List Int) → Prop
  | [], [], [] => True
  | d :: ds, s :: ss, b :: q => Own (cI .u8) d s b ∧ Owns ds ss q
  | _, _, _ => False
theorem Owns.len : ∀ {ds : List Hp} {ss : List Sl} {q : List (List Int)}, Owns ds ss q → ss.length = q.length
  | [], [], [], _ => rfl
  | _ :: _, _ :: _, _ :: _, h => by simp [Owns.len h.2]
  | [], _ :: _, _, h => h.elim
  | [], [], _ :: _, h => h.elim
  | _ :: _, [], _, h => h.elim
  | _ :: _, _ :: _, [], h => h.elim
theorem Owns.push : ∀ {ds : List Hp} {ss : List Sl} {q : List (List Int)} {d : Hp} {s : Sl} {b : List Int}, Owns ds ss q → Own (cI .u8) d s b → Owns (ds ++ [d]) (ss ++ [s]) (q ++ [b])
  | [], [], [], _, _, _, _, h => ⟨h, trivial⟩
  | _ :: _, _ :: _, _ :: _, _, _, _, h, h' => ⟨h.1, Owns.push h.2 h'⟩
  | [], _ :: _, _, _, _, _, h, _ => h.elim
  | [], [], _ :: _, _, _, _, h, _ => h.elim
  | _ :: _, [], _, _, _, _, h, _ => h.elim
  | _ :: _, _ :: _, [], _, _, _, h, _ => h.elim
/-- A box with room for 'n', that holds 'q'. -/
def IsBox (p : Option Addr) (n : Nat) (q : List (List Int)) (shut : Bool) (c : Hp) : Prop :=
  ∃ b e r s r' ss ds, p = some ⟨b, 0, none⟩ ∧ On c (ob b [.chan (some r), .bool shut] e :: Hp.one r (.chan n (List.toArray (ss.map sv)) false s r' false) :: ds) ∧ Owns ds ss q

theorem one_at (b : Nat) (o : Obj) : Hp.one b o b = some o := by simp [Hp.one]

theorem new_ok {n : Int} {h : Hp} {l : List Hp} (o : On h l) {Q : Option Addr → Hp → Prop} (h0 : n < 1 ∨ 256 < n → Q none h) (hq : ∀ p c h', 1 ≤ n → n ≤ 256 → On h' (c :: l) → IsBox p n.toNat [] false c → Q p h') :
    callP Try.prog 23 [Value.int .i64 n] cP h Q := by
  refine c23 ?_
  unfold F23
  refine join_i (fun t h1 => h1 = h ∧ (t = true → n < 1 ∨ 256 < n) ∧ (t = false → 1 ≤ n ∧ n ≤ 256)) ?_ fun J hJ => ?_
  · rintro t h1 ⟨rfl, ht, hf⟩
    refine cond_i (fun e => h0 (ht e)) fun e => ?_
    obtain ⟨hn1, hn2⟩ := hf e
    refine ⟨by omega, by omega, by omega, fun k1 hk1 => ?_⟩
    have o1 := o.new hk1 (.chan n.toNat #[] false 0 0 false)
    refine alloc_ob o1 fun k2 h2 o2 => ?_
    have o3 : On h2 ([ob k2 [.chan (some k1), .bool false] 100, Hp.one k1 (.chan n.toNat #[] false 0 0 false)] ++ l) := o2
    obtain ⟨o4, o5⟩ := o3.joined
    exact hq _ _ _ hn1 hn2 o4 ⟨k2, 100, k1, 0, 0, [], [], rfl, o5, trivial⟩
  · refine cond_d (fun e => hJ _ _ ⟨rfl, fun _ => .inl e, fun h => by cases h⟩) fun e => hJ _ _ ⟨rfl, fun h => .inr (by simpa using h), fun h => ⟨by omega, by simpa using h⟩⟩

theorem put_ok {p : Option Addr} {n : Nat} {q : List (List Int)} {shut : Bool} {c g h : Hp} {l : List Hp} {m : Sl} {bs : List Int} (o : On h (c :: l)) (w : IsBox p n q shut c) {i : Nat} (hi : (c :: l)[i]? = some g)
    (r : Row (cI .u8) g m bs) (hl : bs.length ≤ 1000000) {Q : Bool → Hp → Prop}
    (hq : ∀ c' h', On h' (c' :: l) → IsBox p n (bif !shut && decide (q.length < n) then q ++ [bs] else q) shut c' → Q (!shut && decide (q.length < n)) h') :
    callP Try.prog 24 [Value.pointer p, Value.slice m.a m.len m.cap] cB h Q := by
  have w' := w
  obtain ⟨b, e, rb, s, r', ss, ds, rfl, oc, rr⟩ := w
  refine c24 ?_
  unfold F24
  have os := o.split oc
  refine join_i (fun t h1 => h1 = h ∧ t = shut) ?_ fun J hJ => ?_
  · rintro t h1 ⟨rfl, rfl⟩
    refine cond_i (fun e' => ?_) fun e' => ?_
    · subst e'
      exact hq c _ o (by simpa using w')
    · subst e'
      refine load_ob (x := some rb) os 0 rfl rfl ?_
      refine clone_ok o hi r hl fun s1 d1 h2 o2 w2 => ?_
      have os2 := o2.swap.split oc
      have hc := os2.get (i := 1) rfl _ _ (one_at _ _)
      refine ⟨n, (ss.map sv).toArray, s, r', hc, fun hfull => ?_, fun hroom => ?_⟩
      · have hlen : q.length = ss.length := (Owns.len rr).symm
        have hnl : ¬ q.length < n := by simp at hfull; omega
        have := hq c h2 (o2.swap.sublist (List.Sublist.cons_cons c (List.sublist_cons_self _ _)))
        simp only [Bool.not_false, Bool.true_and, decide_eq_false hnl, cond_false] at this
        exact this w'
      · have hlen : q.length = ss.length := (Owns.len rr).symm
        have hnl : q.length < n := by simp at hroom; omega
        have o3 := (os2.swap.upd (one_at _ _) (.chan n ((ss.map sv).toArray.push (sv s1)) false (s + 1) r' false))
        rw [one_upd] at o3
        have o7 : On _ (ob b [.chan (some rb), .bool false] e :: Hp.one rb (.chan n ((ss.map sv).toArray.push (sv s1)) false (s + 1) r' false) :: (ds ++ d1 :: l)) := o3.swap
        rw [show ds ++ d1 :: l = (ds ++ [d1]) ++ l by simp] at o7
        obtain ⟨o8, o9⟩ := On.joined (cs := _ :: _ :: (ds ++ [d1])) (l := l) o7
        have := hq _ _ o8
        simp only [Bool.not_false, Bool.true_and, decide_eq_true hnl, cond_true] at this
        refine this ⟨b, e, rb, s + 1, r', ss ++ [s1], ds ++ [d1], rfl, ?_, rr.push w2⟩
        · rw [List.map_append]
          simpa using o9
  · refine cond_f rfl ?_
    exact load_ob (x := shut) os 0 rfl rfl (hJ _ _ ⟨rfl, rfl⟩)
end Go.Proofs.Ytplfogbgobkcfaa
