/- Chapter 9: what keep's functions say of parts of the heap. -/
import Derived.Test.YtplfogbgobkcfaaMailG
import Derived.Test.YtplfogbgobkcfaaEZ
set_option linter.unusedVariables false
namespace Go.Proofs.Ytplfogbgobkcfaa
open Go.Eng

def mkF (n : Int) (m : Msg) : Frame := ⟨n, m.Kind, m.F_0, m.F_1, m.F_2, m.F_3, m.F_4, m.F_5⟩
/-- The last ones of a list. -/
def lastN {α : Type} (n : Nat) (l : List α) : List α := l.drop (l.length - n)
theorem lastN_len {α : Type} (n : Nat) (l : List α) : (lastN n l).length = min n l.length := by unfold lastN; simp; omega
theorem lastN_push {α : Type} (n : Nat) (l : List α) (x : α) : lastN (n + 1) (l ++ [x]) = lastN n l ++ [x] := by
  unfold lastN
  rw [List.length_append, List.length_singleton, List.drop_append_of_le_length (by omega)]
  congr 2; omega
/-- A keep to which 'all' were added. -/
def IsKeep (p : Option Addr) (all : List Frame) (c : Hp) : Prop :=
  ∃ b e sl d, p = some ⟨b, 0, none⟩ ∧ On c [ob b [sv sl, .int .i64 (all.length + 1 : Nat)] e, d] ∧ Own cFrame d sl (lastN 64 all)

theorem knew_ok {h : Hp} {l : List Hp} (o : On h l) {Q : Option Addr → Hp → Prop} (hq : ∀ p c h', On h' (c :: l) → IsKeep p [] c → Q p h') : callP Try.prog 29 [] cP h Q := by
  refine c29 ?_
  unfold F29
  refine alloc_ob o fun k1 h1 o1 => ?_
  have o2 : On h1 ([ob k1 [Value.slice none 0 0, Value.int .i64 1] 103, Hp.emp] ++ l) := o1.emp.swap
  obtain ⟨o3, o4⟩ := o2.joined
  exact hq _ _ _ o3 ⟨k1, 103, ⟨none, 0, 0⟩, Hp.emp, rfl, o4, Own.nil _⟩

theorem kclone_ok {p0 : Sl} {g h : Hp} {l : List Hp} {fs : List Frame} (o : On h l) {i : Nat} (hi : l[i]? = some g) (r : Row cFrame g p0 fs) (hl : fs.length ≤ 1000000) {Q : Sl → Hp → Prop}
    (hq : ∀ s d h', On h' (d :: l) → Own cFrame d s fs → Q s h') : callP Try.prog 58 [Value.slice p0.a p0.len p0.cap] cSl h Q := by
  refine c58 ?_
  unfold F58
  refine cond_i (fun hn => ?_) fun _ => ?_
  · have ha : p0.a = none := Option.isNone_iff_eq_none.1 hn
    have : fs = [] := by
      have := r.2
      rw [ha] at this
      exact this
    subst this
    exact hq _ Hp.emp h o.emp (Own.nil _)
  · refine alloc_ob o fun k1 h1 o1 => ?_
    have w0 : Own cFrame (ob k1 [] 58) ⟨some ⟨k1, 0, none⟩, 0, 0⟩ [] := own_ob (cd := cFrame) (xs := []) (rest := []) rfl rfl rfl
    exact append_own (g := g) (s := ⟨some ⟨k1, 0, none⟩, 0, 0⟩) (t := p0) o1 rfl w0 (by decide) r (o1.get (i := i + 1) (by simpa using hi)) (by unfold roomP; simp; omega) fun c p k2 k3 h3 o3 w3 => hq _ c _ o3 w3

/-- The first one is struck. -/
theorem kdelete_ok {p0 : Sl} {h : Hp} {d : Hp} {l : List Hp} {f : Frame} {fs : List Frame} (o : On h (d :: l)) (w : Own cFrame d p0 (f :: fs)) (hl : fs.length ≤ 1000000) {Q : Sl → Hp → Prop}
    (hq : ∀ s d' h', On h' (d' :: l) → Own cFrame d' s fs → Q s h') : callP Try.prog 57 [Value.slice p0.a p0.len p0.cap, Value.int .i64 0, Value.int .i64 1] cSl h Q := by
  have hlen : p0.len = fs.length + 1 := w.1
  have hcap : fs.length + 1 ≤ p0.cap := w.le_cap (by decide)
  have ha0 : p0.a ≠ none := by
    intro ha
    have := w.2
    rw [ha] at this
    cases this.2
  refine c57 ?_
  unfold F57
  refine ⟨by omega, by omega, by omega, by omega, by omega, ?_⟩
  refine cond_f (by decide) ?_
  refine ⟨by omega, by omega, by omega, by omega, ?_⟩
  have w0 : Own cFrame d ⟨p0.a, 0, p0.cap⟩ [] := w.head rfl (Nat.zero_le _)
  have r1 : Row cFrame d ⟨cutA p0.a 1 p0.cap 8, p0.len - 1, p0.cap⟩ fs := by
    have := (w.row).cut (k := 1) (m := p0.len) (cap' := p0.cap) (by omega) (by rw [hlen]; simp) (by simpa using hcap) rfl (z := 8) rfl
    simpa [hlen] using this
  have e1 : cutA p0.a 0 p0.cap 8 = p0.a := by
    unfold cutA
    split
    · rfl
    · cases p0.a <;> rfl
  change appendP cFrame 58 64 (cutA p0.a 0 p0.cap 8) 0 p0.cap (cutA p0.a 1 p0.cap 8) (p0.len - 1) h _
  rw [e1]
  refine append_in (s := ⟨p0.a, 0, p0.cap⟩) (t := ⟨cutA p0.a 1 p0.cap 8, p0.len - 1, p0.cap⟩) o rfl w0 r1 (o.get (i := 0) rfl) (by simp; omega) ha0 fun d' h' o' w' => ?_
  rw [List.nil_append] at w'
  have hz : ([] : List Frame).length + fs.length = fs.length := by simp
  rw [hz] at w' ⊢
  refine ⟨by omega, by omega, by dsimp only; omega, ?_⟩
  refine clear_rest (s := ⟨p0.a, fs.length, p0.cap⟩) (xs := fs) o' rfl (by decide) w' (k := (fs.length : Int).toNat) (m := (p0.len : Int).toNat - (fs.length : Int).toNat) (by omega) (by dsimp only; omega) (by omega) rfl fun c2 h2 o2 w2 => ?_
  exact hq _ c2 h2 o2 w2

theorem kadd_ok {p : Option Addr} {all : List Frame} {m : Msg} {c h : Hp} {l : List Hp} (o : On h (c :: l)) (w : IsKeep p all c) (hl : all.length ≤ 1000000) {Q : Frame → Hp → Prop}
    (hq : ∀ c' h', On h' (c' :: l) → IsKeep p (all ++ [mkF (all.length + 1 : Nat) m]) c' → Q (mkF (all.length + 1 : Nat) m) h') : callP Try.prog 30 [Value.pointer p, cMsg.enc m] cFrame h Q := by
  obtain ⟨b, e, sl, d, rfl, oc, wd⟩ := w
  refine c30 ?_
  unfold F30
  dsimp only [nilP]
  have os := o.split oc
  refine cond_f rfl ?_
  refine load_ob (x := ((all.length + 1 : Nat) : Int)) os 0 rfl rfl ?_
  refine load_ob (x := ((all.length + 1 : Nat) : Int)) os 0 rfl rfl ?_
  refine store_ob (cd := cI .i64) (i := 1) (vs' := [sv sl, .int .i64 (all.length + 1 + 1 : Nat)]) os rfl ?_ (Nat.le_refl 2) fun h1 o1 => ?_
  · rw [w64n (by omega)]; rfl
  refine load_ob (x := sl) o1 0 rfl rfl ?_
  refine alloc_ob o1 fun k1 h2 o2 => ?_
  have rf : Row cFrame (ob k1 _ 58) ⟨some ⟨k1, 0, none⟩, 1, 1⟩ [mkF (all.length + 1 : Nat) m] := row_ob (cd := cFrame) (xs := [mkF (all.length + 1 : Nat) m]) rfl rfl
  have hll : (lastN 64 all).length ≤ 64 := by rw [lastN_len]; omega
  have o2' := o2.pull 2 rfl
  refine append_own (s := sl) (t := ⟨some ⟨k1, 0, none⟩, 1, 1⟩) o2' rfl wd (by decide) rf (o2'.get (i := 1) rfl) (by unfold roomP; simp; omega) fun d3 p3 k2 k3 h3 o3 w3 => ?_
  have o3' := o3.pull 2 rfl
  refine store_ob (vs' := [Value.slice p3 k2 k3, .int .i64 (all.length + 1 + 1 : Nat)]) (cd := cSl) (i := 0) (x := (⟨p3, k2, k3⟩ : Sl)) o3' rfl rfl (Nat.le_succ 1) fun h4 o4 => ?_
  have hfin : ∀ (s' : Sl) (d' h' : Hp), On h' (ob b [sv s', .int .i64 (all.length + 1 + 1 : Nat)] e :: d' :: l) → Own cFrame d' s' (lastN 64 (all ++ [mkF (all.length + 1 : Nat) m])) → Q (mkF (all.length + 1 : Nat) m) h' := by
    intro s' d' h' o' w'
    obtain ⟨o5, o6⟩ := On.joined (cs := [ob b [sv s', .int .i64 (all.length + 1 + 1 : Nat)] e, d']) (l := l) o'
    refine hq _ _ o5 ⟨b, e, s', d', rfl, ?_, w'⟩
    rw [List.length_append]
    exact o6
  have hpush := lastN_push 63 all (mkF (all.length + 1 : Nat) m)
  refine join_i (fun _ h5 => ∃ (s' : Sl) (d' : Hp), On h5 (ob b [sv s', .int .i64 (all.length + 1 + 1 : Nat)] e :: d' :: l) ∧ Own cFrame d' s' (lastN 64 (all ++ [mkF (all.length + 1 : Nat) m]))) ?_ fun J hJ => ?_
  · rintro _ h5 ⟨s', d', o5, w5⟩
    exact hfin s' d' h5 o5 w5
  · have o4' : On h4 (ob b [sv ⟨p3, k2, k3⟩, .int .i64 (all.length + 1 + 1 : Nat)] e :: d3 :: l) := o4.sublist (by simp [sv])
    refine load_ob (x := (⟨p3, k2, k3⟩ : Sl)) o4' 0 rfl rfl ?_
    have hk2 : k2 = (lastN 64 all).length + 1 := by have := w3.1; simpa using this
    rw [lastN_len] at hk2
    refine cond_d (fun hgt => ?_) fun hle => ?_
    · dsimp only at hgt
      have h64 : 64 ≤ all.length := by omega
      have hsplit : ∃ f fs, lastN 64 all = f :: fs ∧ lastN 63 all = fs := by
        unfold lastN
        have hlt : all.length - 64 < all.length := by omega
        refine ⟨all[all.length - 64], all.drop (all.length - 64 + 1), List.drop_eq_getElem_cons hlt, ?_⟩
        congr 1; omega
      obtain ⟨f, fs, hf1, hf2⟩ := hsplit
      refine load_ob (x := (⟨p3, k2, k3⟩ : Sl)) o4' 0 rfl rfl ?_
      rw [hf1] at w3
      have hfl : fs.length ≤ 63 := by rw [← hf2, lastN_len]; omega
      refine kdelete_ok (p0 := ⟨p3, k2, k3⟩) (fs := fs ++ [mkF (all.length + 1 : Nat) m]) o4'.swap w3 (by simp; omega) fun s' d' h6 o6 w6 => ?_
      refine store_ob (vs' := [sv s', .int .i64 (all.length + 1 + 1 : Nat)]) (cd := cSl) (i := 0) (x := s') o6.swap rfl rfl (Nat.le_succ 1) fun h7 o7 => ?_
      exact hJ _ _ ⟨s', d', o7, by rw [hpush, hf2]; exact w6⟩
    · dsimp only at hle
      refine hJ _ _ ⟨⟨p3, k2, k3⟩, d3, o4', ?_⟩
      have : lastN 64 (all ++ [mkF (all.length + 1 : Nat) m]) = lastN 64 all ++ [mkF (all.length + 1 : Nat) m] := by
        unfold lastN
        rw [show all.length - 64 = 0 by omega, show (all ++ [mkF (all.length + 1 : Nat) m]).length - 64 = 0 by simp; omega]
        rfl
      rw [this]
      exact w3
end Go.Proofs.Ytplfogbgobkcfaa
