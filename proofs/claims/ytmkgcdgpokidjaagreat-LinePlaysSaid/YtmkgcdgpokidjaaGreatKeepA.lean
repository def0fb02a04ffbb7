/- Chapter 9: keep, and the document's keep. -/
import Derived.Test.YtmkgcdgpokidjaaGreatBaseA
set_option linter.unusedVariables false
namespace Go.Proofs.YtmkgcdgpokidjaaGreat
open Go.Eng

def mkF (n : Int) (m : Msg) : Frame := ⟨n, m.Kind, m.F_0, m.F_1, m.F_2, m.F_3, m.F_4, m.F_5⟩
/-- The last ones of a list. -/
def lastN {α : Type} (n : Nat) (l : List α) : List α := l.drop (l.length - n)
theorem lastN_len {α : Type} (n : Nat) (l : List α) : (lastN n l).length = min n l.length := by unfold lastN; simp; omega
theorem lastN_push {α : Type} (n : Nat) (l : List α) (x : α) : lastN (n + 1) (l ++ [x]) = lastN n l ++ [x] := by
  unfold lastN
  rw [List.length_append, List.length_singleton, List.drop_append_of_le_length (by omega)]
  congr 2; omega
/-- A keep to which 'all' were added. -/
def IsKeep (p : Option Addr) (all : List Frame) (c : Hp) : Prop :=
  ∃ b e sl d, p = some ⟨b, 0, none⟩ ∧ On c [ob b [sv sl, .int .i64 (all.length + 1 : Nat)] e, d] ∧ Own cFrame d sl (lastN 64 all)
theorem knew_ok {h : Hp} {l : List Hp} (o : On h l) {Q : Option Addr → Hp → Prop} (hq : ∀ p c h', On h' (c :: l) → IsKeep p [] c → Q p h') : callP Tryz.prog 44 [] cP h Q := by
  refine c44 ?_
  unfold F44
  refine alloc_ob o fun k1 h1 o1 => ?_
  have o2 : On h1 ([ob k1 [Value.slice none 0 0, Value.int .i64 1] 123, Hp.emp] ++ l) := o1.emp.swap
  obtain ⟨o3, o4⟩ := o2.joined
  exact hq _ _ _ o3 ⟨k1, 123, ⟨none, 0, 0⟩, Hp.emp, rfl, o4, Own.nil _⟩
theorem kclone_ok {p0 : Sl} {g h : Hp} {l : List Hp} {fs : List Frame} (o : On h l) {i : Nat} (hi : l[i]? = some g) (r : Row cFrame g p0 fs) (hl : fs.length ≤ 1000000) {Q : Sl → Hp → Prop}
    (hq : ∀ s d h', On h' (d :: l) → Own cFrame d s fs → Q s h') : callP Tryz.prog 96 [Value.slice p0.a p0.len p0.cap] cSl h Q := by
  refine c96 ?_
  unfold F96
  refine cond_i (fun hn => ?_) fun _ => ?_
  · have ha : p0.a = none := Option.isNone_iff_eq_none.1 hn
    have : fs = [] := by
      have := r.2
      rw [ha] at this
      exact this
    subst this
    exact hq _ Hp.emp h o.emp (Own.nil _)
  · refine alloc_ob o fun k1 h1 o1 => ?_
    have w0 : Own cFrame (ob k1 [] 65) ⟨some ⟨k1, 0, none⟩, 0, 0⟩ [] := own_ob (cd := cFrame) (xs := []) (rest := []) rfl rfl rfl
    exact append_own (g := g) (s := ⟨some ⟨k1, 0, none⟩, 0, 0⟩) (t := p0) o1 rfl w0 (by decide) r (o1.get (i := i + 1) (by simpa using hi)) (by unfold roomP; simp; omega) fun c p k2 k3 h3 o3 w3 => hq _ c _ o3 w3
/-- The first one is struck. -/
theorem kdelete_ok {p0 : Sl} {h : Hp} {d : Hp} {l : List Hp} {f : Frame} {fs : List Frame} (o : On h (d :: l)) (w : Own cFrame d p0 (f :: fs)) (hl : fs.length ≤ 1000000) {Q : Sl → Hp → Prop}
    (hq : ∀ s d' h', On h' (d' :: l) → Own cFrame d' s fs → Q s h') : callP Tryz.prog 90 [Value.slice p0.a p0.len p0.cap, Value.int .i64 0, Value.int .i64 1] cSl h Q := by
  have hlen : p0.len = fs.length + 1 := w.1
  have hcap : fs.length + 1 ≤ p0.cap := w.le_cap (by decide)
  have ha0 : p0.a ≠ none := by
    intro ha
    have := w.2
    rw [ha] at this
    cases this.2
  refine c90 ?_
  unfold F90
  refine ⟨by omega, by omega, by omega, by omega, by omega, ?_⟩
  refine cond_f (by decide) ?_
  refine ⟨by omega, by omega, by omega, by omega, ?_⟩
  have w0 : Own cFrame d ⟨p0.a, 0, p0.cap⟩ [] := w.head rfl (Nat.zero_le _)
  have r1 : Row cFrame d ⟨cutA p0.a 1 p0.cap 8, p0.len - 1, p0.cap⟩ fs := by
    have := (w.row).cut (k := 1) (m := p0.len) (cap' := p0.cap) (by omega) (by rw [hlen]; simp) (by simpa using hcap) rfl (z := 8) rfl
    simpa [hlen] using this
  have e1 : cutA p0.a 0 p0.cap 8 = p0.a := by
    unfold cutA
    split
    · rfl
    · cases p0.a <;> rfl
  change appendP cFrame 65 64 (cutA p0.a 0 p0.cap 8) 0 p0.cap (cutA p0.a 1 p0.cap 8) (p0.len - 1) h _
  rw [e1]
  refine append_in (s := ⟨p0.a, 0, p0.cap⟩) (t := ⟨cutA p0.a 1 p0.cap 8, p0.len - 1, p0.cap⟩) o rfl w0 r1 (o.get (i := 0) rfl) (by simp; omega) ha0 fun d' h' o' w' => ?_
  rw [List.nil_append] at w'
  have hz : ([] : List Frame).length + fs.length = fs.length := by simp
  rw [hz] at w' ⊢
  refine ⟨by omega, by omega, by dsimp only; omega, ?_⟩
  refine clear_rest (s := ⟨p0.a, fs.length, p0.cap⟩) (xs := fs) o' rfl (by decide) w' (k := (fs.length : Int).toNat) (m := (p0.len : Int).toNat - (fs.length : Int).toNat) (by omega) (by dsimp only; omega) (by omega) rfl fun c2 h2 o2 w2 => ?_
  exact hq _ c2 h2 o2 w2
theorem kadd_ok {p : Option Addr} {all : List Frame} {m : Msg} {c h : Hp} {l : List Hp} (o : On h (c :: l)) (w : IsKeep p all c) (hl : all.length ≤ 1000000) {Q : Frame → Hp → Prop}
    (hq : ∀ c' h', On h' (c' :: l) → IsKeep p (all ++ [mkF (all.length + 1 : Nat) m]) c' → Q (mkF (all.length + 1 : Nat) m) h') : callP Tryz.prog 67 [Value.pointer p, cMsg.enc m] cFrame h Q := by
  obtain ⟨b, e, sl, d, rfl, oc, wd⟩ := w
  refine c67 ?_
  unfold F67
  dsimp only [nilP]
  have os := o.split oc
  refine cond_f rfl ?_
  refine load_ob (x := ((all.length + 1 : Nat) : Int)) os 0 rfl rfl ?_
  refine load_ob (x := ((all.length + 1 : Nat) : Int)) os 0 rfl rfl ?_
  refine store_ob (cd := cI .i64) (i := 1) (vs' := [sv sl, .int .i64 (all.length + 1 + 1 : Nat)]) os rfl ?_ (Nat.le_refl 2) fun h1 o1 => ?_
  · rw [w64n (by omega)]; rfl
  refine load_ob (x := sl) o1 0 rfl rfl ?_
  refine alloc_ob o1 fun k1 h2 o2 => ?_
  have rf : Row cFrame (ob k1 _ 65) ⟨some ⟨k1, 0, none⟩, 1, 1⟩ [mkF (all.length + 1 : Nat) m] := row_ob (cd := cFrame) (xs := [mkF (all.length + 1 : Nat) m]) rfl rfl
  have hll : (lastN 64 all).length ≤ 64 := by rw [lastN_len]; omega
  have o2' := o2.pull 2 rfl
  refine append_own (s := sl) (t := ⟨some ⟨k1, 0, none⟩, 1, 1⟩) o2' rfl wd (by decide) rf (o2'.get (i := 1) rfl) (by unfold roomP; simp; omega) fun d3 p3 k2 k3 h3 o3 w3 => ?_
  have o3' := o3.pull 2 rfl
  refine store_ob (vs' := [Value.slice p3 k2 k3, .int .i64 (all.length + 1 + 1 : Nat)]) (cd := cSl) (i := 0) (x := (⟨p3, k2, k3⟩ : Sl)) o3' rfl rfl (Nat.le_succ 1) fun h4 o4 => ?_
  have hfin : ∀ (s' : Sl) (d' h' : Hp), On h' (ob b [sv s', .int .i64 (all.length + 1 + 1 : Nat)] e :: d' :: l) → Own cFrame d' s' (lastN 64 (all ++ [mkF (all.length + 1 : Nat) m])) → Q (mkF (all.length + 1 : Nat) m) h' := by
    intro s' d' h' o' w'
    obtain ⟨o5, o6⟩ := On.joined (cs := [ob b [sv s', .int .i64 (all.length + 1 + 1 : Nat)] e, d']) (l := l) o'
    refine hq _ _ o5 ⟨b, e, s', d', rfl, ?_, w'⟩
    rw [List.length_append]
    exact o6
  have hpush := lastN_push 63 all (mkF (all.length + 1 : Nat) m)
  refine join_i (fun _ h5 => ∃ (s' : Sl) (d' : Hp), On h5 (ob b [sv s', .int .i64 (all.length + 1 + 1 : Nat)] e :: d' :: l) ∧ Own cFrame d' s' (lastN 64 (all ++ [mkF (all.length + 1 : Nat) m]))) ?_ fun J hJ => ?_
  · rintro _ h5 ⟨s', d', o5, w5⟩
    exact hfin s' d' h5 o5 w5
  · have o4' : On h4 (ob b [sv ⟨p3, k2, k3⟩, .int .i64 (all.length + 1 + 1 : Nat)] e :: d3 :: l) := o4.sublist (by simp [sv])
    refine load_ob (x := (⟨p3, k2, k3⟩ : Sl)) o4' 0 rfl rfl ?_
    have hk2 : k2 = (lastN 64 all).length + 1 := by have := w3.1; simpa using this
    rw [lastN_len] at hk2
    refine cond_d (fun hgt => ?_) fun hle => ?_
    · dsimp only at hgt
      have h64 : 64 ≤ all.length := by omega
      have hsplit : ∃ f fs, lastN 64 all = f :: fs ∧ lastN 63 all = fs := by
        unfold lastN
        have hlt : all.length - 64 < all.length := by omega
        refine ⟨all[all.length - 64], all.drop (all.length - 64 + 1), List.drop_eq_getElem_cons hlt, ?_⟩
        congr 1; omega
      obtain ⟨f, fs, hf1, hf2⟩ := hsplit
      refine load_ob (x := (⟨p3, k2, k3⟩ : Sl)) o4' 0 rfl rfl ?_
      rw [hf1] at w3
      have hfl : fs.length ≤ 63 := by rw [← hf2, lastN_len]; omega
      refine kdelete_ok (p0 := ⟨p3, k2, k3⟩) (fs := fs ++ [mkF (all.length + 1 : Nat) m]) o4'.swap w3 (by simp; omega) fun s' d' h6 o6 w6 => ?_
      refine store_ob (vs' := [sv s', .int .i64 (all.length + 1 + 1 : Nat)]) (cd := cSl) (i := 0) (x := s') o6.swap rfl rfl (Nat.le_succ 1) fun h7 o7 => ?_
      exact hJ _ _ ⟨s', d', o7, by rw [hpush, hf2]; exact w6⟩
    · dsimp only at hle
      refine hJ _ _ ⟨⟨p3, k2, k3⟩, d3, o4', ?_⟩
      have : lastN 64 (all ++ [mkF (all.length + 1 : Nat) m]) = lastN 64 all ++ [mkF (all.length + 1 : Nat) m] := by
        unfold lastN
        rw [show all.length - 64 = 0 by omega, show (all ++ [mkF (all.length + 1 : Nat) m]).length - 64 = 0 by simp; omega]
        rfl
      rw [this]
      exact w3
/-- What may not be had. -/
def Gone (n : Nat) (seq : Int) : Prop := seq < 1 ∨ seq > (n : Int) + 1 ∨ seq < (n : Int) + 1 - 64
theorem kfrom_ok {p : Option Addr} {all : List Frame} {seq : Int} {c h : Hp} {l : List Hp} (o : On h (c :: l)) (w : IsKeep p all c) (hl : all.length ≤ 1000000) (hs : -9223372036854775808 ≤ seq ∧ seq ≤ 9223372036854775807)
    {Q : Sl × Bool → Hp → Prop} (h0 : Gone all.length seq → Q (⟨none, 0, 0⟩, false) h)
    (h1 : ¬ Gone all.length seq → ∀ s d' h', On h' (d' :: c :: l) → Own cFrame d' s (all.drop (seq - 1).toNat) → Q (s, true) h') : callP Tryz.prog 82 [Value.pointer p, Value.int .i64 seq] (tupC [cSl, cB]) h Q := by
  have w' := w
  obtain ⟨b, e, sl, d, rfl, oc, wd⟩ := w
  refine c82 ?_
  unfold F82
  dsimp only [nilP]
  have os := o.split oc
  have hsl : sl.len = min 64 all.length := by rw [wd.1, lastN_len]
  refine join_i (fun t h' => h' = h ∧ (t = true → Gone all.length seq) ∧ (t = false → ¬ Gone all.length seq)) ?_ fun J hJ => ?_
  · rintro t h' ⟨rfl, ht, hf⟩
    refine cond_i (fun e => h0 (ht e)) fun e' => ?_
    have hng := hf e'
    unfold Gone at hng
    refine load_ob (cd := cSl) (x := sl) os 0 rfl rfl ?_
    refine load_ob (cd := cSl) (x := sl) os 0 rfl rfl ?_
    refine load_ob (cd := cI .i64) (x := ((all.length + 1 : Nat) : Int)) os 0 rfl rfl ?_
    rw [w64 (n := ((all.length + 1 : Nat) : Int) - seq) (by omega) (by omega), w64 (by omega) (by omega)]
    have hk : ((sl.len : Int) - (((all.length + 1 : Nat) : Int) - seq)).toNat = sl.len - (all.length + 1 - seq.toNat) := by omega
    refine ⟨by omega, by omega, ?_⟩
    rw [hk]
    have hcap := wd.le_cap (by decide)
    have hlast : (lastN 64 all).length = sl.len := wd.1.symm
    have r1 := wd.row.cut (k := sl.len - (all.length + 1 - seq.toNat)) (m := sl.len) (cap' := sl.cap - (sl.len - (all.length + 1 - seq.toNat))) (by omega) (by omega) hcap rfl (z := 8) rfl
    have hdrop : ((lastN 64 all).drop (sl.len - (all.length + 1 - seq.toNat))).take (sl.len - (sl.len - (all.length + 1 - seq.toNat))) = all.drop (seq - 1).toNat := by
      rw [List.take_of_length_le (by simp; omega)]
      unfold lastN
      rw [List.drop_drop]
      congr 1
      omega
    rw [hdrop] at r1
    have os2 := o.split oc
    refine kclone_ok (p0 := ⟨cutA sl.a (sl.len - (all.length + 1 - seq.toNat)) sl.cap 8, sl.len - (sl.len - (all.length + 1 - seq.toNat)), sl.cap - (sl.len - (all.length + 1 - seq.toNat))⟩) o (i := 0) rfl (r1.sub (oc.get (i := 1) rfl)) (by simp; omega) fun s d' h2 o2 w2 => ?_
    exact h1 hng s d' h2 o2 w2
  · refine cond_f rfl ?_
    refine cond_d (fun e => hJ _ _ ⟨rfl, fun _ => .inl e, fun h => by cases h⟩) fun e1 => ?_
    refine load_ob (cd := cI .i64) (x := ((all.length + 1 : Nat) : Int)) os 0 rfl rfl ?_
    refine cond_d (fun e => hJ _ _ ⟨rfl, fun _ => .inr (.inl (by omega)), fun h => by cases h⟩) fun e2 => ?_
    refine load_ob (cd := cI .i64) (x := ((all.length + 1 : Nat) : Int)) os 0 rfl rfl ?_
    refine load_ob (cd := cSl) (x := sl) os 0 rfl rfl ?_
    rw [w64 (by omega) (by omega)]
    refine hJ _ _ ⟨rfl, fun h => ?_, fun h => ?_⟩
    · have h := of_decide_eq_true h
      unfold Gone; omega
    · have h := of_decide_eq_false h
      unfold Gone; omega
theorem kfrom_nil {seq : Int} {h : Hp} {Q : Sl × Bool → Hp → Prop} (h0 : Q (⟨none, 0, 0⟩, false) h) : callP Tryz.prog 82 [Value.pointer none, Value.int .i64 seq] (tupC [cSl, cB]) h Q := by
  refine c82 ?_
  unfold F82
  exact h0
/-- The document's keep, to which 'all' were added. -/
def IsRef9 (p : Option Addr) (all : List Frame) (c : Hp) : Prop :=
  ∃ b e sl d, p = some ⟨b, 0, none⟩ ∧ On c [ob b [sv sl] e, d] ∧ Own cFrame d sl all
theorem rknext_ok {p : Option Addr} {all : List Frame} {c h : Hp} {l : List Hp} (o : On h (c :: l)) (w : IsRef9 p all c) (hl : all.length ≤ 1000000) {Q : Int → Hp → Prop} (hq : Q (all.length + 1 : Nat) h) : callP Tryz.prog 91 [Value.pointer p] (cI .i64) h Q := by
  obtain ⟨b, e, sl, d, rfl, oc, wd⟩ := w
  refine c91 ?_
  unfold F91
  dsimp only [nilP]
  have os := o.split oc
  refine load_ob (cd := cSl) (x := sl) os 0 rfl rfl ?_
  rw [wd.1, w64n (by omega)]
  exact hq
theorem rkadd_ok {p : Option Addr} {all : List Frame} {m : Msg} {c h : Hp} {l : List Hp} (o : On h (c :: l)) (w : IsRef9 p all c) (hl : all.length ≤ 1000000) {Q : Frame → Hp → Prop}
    (hq : ∀ c' h', On h' (c' :: l) → IsRef9 p (all ++ [mkF (all.length + 1 : Nat) m]) c' → Q (mkF (all.length + 1 : Nat) m) h') : callP Tryz.prog 70 [Value.pointer p, cMsg.enc m] cFrame h Q := by
  have w' := w
  obtain ⟨b, e, sl, d, rfl, oc, wd⟩ := w
  refine c70 ?_
  unfold F70
  refine rknext_ok o w' hl ?_
  dsimp only [nilP]
  have os := o.split oc
  refine load_ob (cd := cSl) (x := sl) os 0 rfl rfl ?_
  refine alloc_ob os fun k1 h2 o2 => ?_
  have rf : Row cFrame (ob k1 _ 65) ⟨some ⟨k1, 0, none⟩, 1, 1⟩ [mkF (all.length + 1 : Nat) m] := row_ob (cd := cFrame) (xs := [mkF (all.length + 1 : Nat) m]) rfl rfl
  have o2' := o2.pull 2 rfl
  refine append_own (s := sl) (t := ⟨some ⟨k1, 0, none⟩, 1, 1⟩) o2' rfl wd (by decide) rf (o2'.get (i := 1) rfl) (by unfold roomP; simp; omega) fun d3 p3 k2 k3 h3 o3 w3 => ?_
  have o3' := o3.pull 2 rfl
  refine store_ob (vs' := [Value.slice p3 k2 k3]) (cd := cSl) (i := 0) (x := (⟨p3, k2, k3⟩ : Sl)) o3' rfl rfl (Nat.le_refl 1) fun h4 o4 => ?_
  have o4' : On h4 ([ob b [sv ⟨p3, k2, k3⟩] e, d3] ++ l) := o4.sublist (by simp [sv])
  obtain ⟨o5, o6⟩ := o4'.joined
  exact hq _ _ o5 ⟨b, e, ⟨p3, k2, k3⟩, d3, rfl, o6, w3⟩
theorem rkfrom_ok {p : Option Addr} {all : List Frame} {seq : Int} {c h : Hp} {l : List Hp} (o : On h (c :: l)) (w : IsRef9 p all c) (hl : all.length ≤ 1000000) (_hs : -9223372036854775808 ≤ seq ∧ seq ≤ 9223372036854775807)
    {Q : Sl × Bool → Hp → Prop} (h0 : Gone all.length seq → Q (⟨none, 0, 0⟩, false) h)
    (h1 : ¬ Gone all.length seq → ∀ s d' h', On h' (d' :: c :: l) → Own cFrame d' s (all.drop (seq - 1).toNat) → Q (s, true) h') : callP Tryz.prog 89 [Value.pointer p, Value.int .i64 seq] (tupC [cSl, cB]) h Q := by
  have w' := w
  obtain ⟨b, e, sl, d, rfl, oc, wd⟩ := w
  refine c89 ?_
  unfold F89
  dsimp only [nilP]
  have os := o.split oc
  have hsl : sl.len = all.length := wd.1
  refine load_ob (cd := cSl) (x := sl) os 0 rfl rfl ?_
  refine join_i (fun t h' => h' = h ∧ (t = true → Gone all.length seq) ∧ (t = false → ¬ Gone all.length seq)) ?_ fun J hJ => ?_
  · rintro t h' ⟨rfl, ht, hf⟩
    refine cond_i (fun e => h0 (ht e)) fun e' => ?_
    have hng := hf e'
    unfold Gone at hng
    refine alloc_ob o fun k1 h2 o2 => ?_
    have os2 : On h2 ([ob b [sv sl] e, d] ++ (ob k1 [] 65 :: l)) := (o2.swap.split oc)
    refine load_ob (cd := cSl) (x := sl) os2 0 rfl rfl ?_
    rw [w64 (by omega) (by omega)]
    refine ⟨by omega, by omega, ?_⟩
    have hcap := wd.le_cap (by decide)
    have r1 := wd.row.cut (k := (seq - 1).toNat) (m := sl.len) (cap' := sl.cap - (seq - 1).toNat) (by omega) (by omega) hcap rfl (z := 8) rfl
    have hdrop : (all.drop (seq - 1).toNat).take (sl.len - (seq - 1).toNat) = all.drop (seq - 1).toNat := List.take_of_length_le (by simp; omega)
    rw [hdrop] at r1
    have w0 : Own cFrame (ob k1 [] 65) ⟨some ⟨k1, 0, none⟩, 0, 0⟩ [] := own_ob (cd := cFrame) (xs := []) (rest := []) rfl rfl rfl
    exact append_own (g := d) (s := ⟨some ⟨k1, 0, none⟩, 0, 0⟩) (t := ⟨cutA sl.a (seq - 1).toNat sl.cap 8, sl.len - (seq - 1).toNat, sl.cap - (seq - 1).toNat⟩) o2 rfl w0 (by decide) r1 (os2.get (i := 1) rfl) (by unfold roomP; simp; omega) fun c2 p3 k2 k3 h3 o3 w3 => h1 hng _ c2 _ o3 w3
  · rw [w64 (n := (sl.len : Int) + 1) (by omega) (by omega)]
    refine cond_d (fun e => hJ _ _ ⟨rfl, fun _ => .inl e, fun h => by cases h⟩) fun e1 => ?_
    refine cond_d (fun e => hJ _ _ ⟨rfl, fun _ => .inr (.inl (by omega)), fun h => by cases h⟩) fun e2 => ?_
    rw [w64 (by omega) (by omega)]
    refine hJ _ _ ⟨rfl, fun h => ?_, fun h => ?_⟩
    · have h := of_decide_eq_true h
      unfold Gone; omega
    · have h := of_decide_eq_false h
      unfold Gone; omega
theorem same_ok {p0 p1 : Sl} {g1 g2 h : Hp} {xs : List Frame} (h1 : g1.sub h) (h2 : g2.sub h) (r1 : Row cFrame g1 p0 xs) (r2 : Row cFrame g2 p1 xs) (hl : xs.length ≤ 1000000) {Q : Bool → Hp → Prop} (hq : Q true h) :
    callP Tryz.prog 8 [Value.slice p0.a p0.len p0.cap, Value.slice p1.a p1.len p1.cap] cB h Q := by
  refine c8 ?_
  unfold F8
  refine cond_f (by rw [r1.1, r2.1]; simp) ?_
  refine loop_i (fun z h' => ∃ i : Nat, z = i ∧ i ≤ xs.length ∧ h' = h) (fun z => xs.length - z.toNat) ⟨0, rfl, Nat.zero_le _, rfl⟩ ?_
  rintro J z h' again ⟨i, rfl, hle, rfl⟩
  refine cond_d (fun hlt => ?_) fun _ => hq
  rw [r1.1] at hlt
  have hlt : i < xs.length := by omega
  have hi : xs[i]? = some xs[i] := List.getElem?_eq_getElem hlt
  refine idx_row r1 (by omega) (by omega) fun a ha => idx_row r2 (by omega) (by omega) fun a2 ha2 => ?_
  refine load_row r1 h1 rfl ha (i := i) hi (by simp) ?_
  refine load_row r2 h2 rfl ha2 (i := i) hi (by simp) ?_
  refine cond_f (by simp) ?_
  exact again _ _ ⟨i + 1, w64n (by omega), by omega, rfl⟩ (by rw [w64n (by omega)]; omega)
end Go.Proofs.YtmkgcdgpokidjaaGreat
