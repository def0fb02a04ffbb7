/- Chapter 9: the document's keep. -/
import Derived.Test.YtplfogbgobkcfaaKeepR
set_option linter.unusedVariables false
namespace Go.Proofs.Ytplfogbgobkcfaa
open Go.Eng

/-- The document's keep, to which 'all' were added. -/
def IsRef9 (p : Option Addr) (all : List Frame) (c : Hp) : Prop :=
  ∃ b e sl d, p = some ⟨b, 0, none⟩ ∧ On c [ob b [sv sl] e, d] ∧ Own cFrame d sl all

theorem rknext_ok {p : Option Addr} {all : List Frame} {c h : Hp} {l : List Hp} (o : On h (c :: l)) (w : IsRef9 p all c) (hl : all.length ≤ 1000000) {Q : Int → Hp → Prop} (hq : Q (all.length + 1 : Nat) h) : callP Try.prog 36 [Value.pointer p] (cI .i64) h Q := by
  obtain ⟨b, e, sl, d, rfl, oc, wd⟩ := w
  refine c36 ?_
  unfold F36
  dsimp only [nilP]
  have os := o.split oc
  refine load_ob (cd := cSl) (x := sl) os 0 rfl rfl ?_
  rw [wd.1, w64n (by omega)]
  exact hq
theorem rkadd_ok {p : Option Addr} {all : List Frame} {m : Msg} {c h : Hp} {l : List Hp} (o : On h (c :: l)) (w : IsRef9 p all c) (hl : all.length ≤ 1000000) {Q : Frame → Hp → Prop}
    (hq : ∀ c' h', On h' (c' :: l) → IsRef9 p (all ++ [mkF (all.length + 1 : Nat) m]) c' → Q (mkF (all.length + 1 : Nat) m) h') : callP Try.prog 31 [Value.pointer p, cMsg.enc m] cFrame h Q := by
  have w' := w
  obtain ⟨b, e, sl, d, rfl, oc, wd⟩ := w
  refine c31 ?_
  unfold F31
  refine rknext_ok o w' hl ?_
  dsimp only [nilP]
  have os := o.split oc
  refine load_ob (cd := cSl) (x := sl) os 0 rfl rfl ?_
  refine alloc_ob os fun k1 h2 o2 => ?_
  have rf : Row cFrame (ob k1 _ 58) ⟨some ⟨k1, 0, none⟩, 1, 1⟩ [mkF (all.length + 1 : Nat) m] := row_ob (cd := cFrame) (xs := [mkF (all.length + 1 : Nat) m]) rfl rfl
  have o2' := o2.pull 2 rfl
  refine append_own (s := sl) (t := ⟨some ⟨k1, 0, none⟩, 1, 1⟩) o2' rfl wd (by decide) rf (o2'.get (i := 1) rfl) (by unfold roomP; simp; omega) fun d3 p3 k2 k3 h3 o3 w3 => ?_
  have o3' := o3.pull 2 rfl
  refine store_ob (vs' := [Value.slice p3 k2 k3]) (cd := cSl) (i := 0) (x := (⟨p3, k2, k3⟩ : Sl)) o3' rfl rfl (Nat.le_refl 1) fun h4 o4 => ?_
  have o4' : On h4 ([ob b [sv ⟨p3, k2, k3⟩] e, d3] ++ l) := o4.sublist (by simp [sv])
  obtain ⟨o5, o6⟩ := o4'.joined
  exact hq _ _ o5 ⟨b, e, ⟨p3, k2, k3⟩, d3, rfl, o6, w3⟩

theorem rkfrom_ok {p : Option Addr} {all : List Frame} {seq : Int} {c h : Hp} {l : List Hp} (o : On h (c :: l)) (w : IsRef9 p all c) (hl : all.length ≤ 1000000) (_hs : -9223372036854775808 ≤ seq ∧ seq ≤ 9223372036854775807)
    {Q : Sl × Bool → Hp → Prop} (h0 : Gone all.length seq → Q (⟨none, 0, 0⟩, false) h)
    (h1 : ¬ Gone all.length seq → ∀ s d' h', On h' (d' :: c :: l) → Own cFrame d' s (all.drop (seq - 1).toNat) → Q (s, true) h') : callP Try.prog 33 [Value.pointer p, Value.int .i64 seq] (tupC [cSl, cB]) h Q := by
  have w' := w
  obtain ⟨b, e, sl, d, rfl, oc, wd⟩ := w
  refine c33 ?_
  unfold F33
  dsimp only [nilP]
  have os := o.split oc
  have hsl : sl.len = all.length := wd.1
  refine load_ob (cd := cSl) (x := sl) os 0 rfl rfl ?_
  refine join_i (fun t h' => h' = h ∧ (t = true → Gone all.length seq) ∧ (t = false → ¬ Gone all.length seq)) ?_ fun J hJ => ?_
  · rintro t h' ⟨rfl, ht, hf⟩
    refine cond_i (fun e => h0 (ht e)) fun e' => ?_
    have hng := hf e'
    unfold Gone at hng
    refine alloc_ob o fun k1 h2 o2 => ?_
    have os2 : On h2 ([ob b [sv sl] e, d] ++ (ob k1 [] 58 :: l)) := (o2.swap.split oc)
    refine load_ob (cd := cSl) (x := sl) os2 0 rfl rfl ?_
    rw [w64 (by omega) (by omega)]
    refine ⟨by omega, by omega, ?_⟩
    have hcap := wd.le_cap (by decide)
    have r1 := wd.row.cut (k := (seq - 1).toNat) (m := sl.len) (cap' := sl.cap - (seq - 1).toNat) (by omega) (by omega) hcap rfl (z := 8) rfl
    have hdrop : (all.drop (seq - 1).toNat).take (sl.len - (seq - 1).toNat) = all.drop (seq - 1).toNat := List.take_of_length_le (by simp; omega)
    rw [hdrop] at r1
    have w0 : Own cFrame (ob k1 [] 58) ⟨some ⟨k1, 0, none⟩, 0, 0⟩ [] := own_ob (cd := cFrame) (xs := []) (rest := []) rfl rfl rfl
    exact append_own (g := d) (s := ⟨some ⟨k1, 0, none⟩, 0, 0⟩) (t := ⟨cutA sl.a (seq - 1).toNat sl.cap 8, sl.len - (seq - 1).toNat, sl.cap - (seq - 1).toNat⟩) o2 rfl w0 (by decide) r1 (os2.get (i := 1) rfl) (by unfold roomP; simp; omega) fun c2 p3 k2 k3 h3 o3 w3 => h1 hng _ c2 _ o3 w3
  · rw [w64 (n := (sl.len : Int) + 1) (by omega) (by omega)]
    refine cond_d (fun e => hJ _ _ ⟨rfl, fun _ => .inl e, fun h => by cases h⟩) fun e1 => ?_
    refine cond_d (fun e => hJ _ _ ⟨rfl, fun _ => .inr (.inl (by omega)), fun h => by cases h⟩) fun e2 => ?_
    rw [w64 (by omega) (by omega)]
    refine hJ _ _ ⟨rfl, fun h => ?_, fun h => ?_⟩
    · have h := of_decide_eq_true h
      unfold Gone; omega
    · have h := of_decide_eq_false h
      unfold Gone; omega
end Go.Proofs.Ytplfogbgobkcfaa
