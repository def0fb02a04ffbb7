/- Chapter 9: From, Next. -/
import Derived.Test.YtplfogbgobkcfaaKeepP
set_option linter.unusedVariables false
namespace Go.Proofs.Ytplfogbgobkcfaa
open Go.Eng

/-- What may not be had. -/
def Gone (n : Nat) (seq : Int) : Prop := seq < 1 ∨ seq > (n : Int) + 1 ∨ seq < (n : Int) + 1 - 64

theorem knext_ok {p : Option Addr} {all : List Frame} {c h : Hp} {l : List Hp} (o : On h (c :: l)) (w : IsKeep p all c) {Q : Int → Hp → Prop} (hq : Q (all.length + 1 : Nat) h) : callP Try.prog 35 [Value.pointer p] (cI .i64) h Q := by
  obtain ⟨b, e, sl, d, rfl, oc, wd⟩ := w
  refine c35 ?_
  unfold F35
  dsimp only [nilP]
  have os := o.split oc
  refine cond_f rfl ?_
  exact load_ob (cd := cI .i64) (x := ((all.length + 1 : Nat) : Int)) os 0 rfl rfl hq
theorem knext_nil {h : Hp} {Q : Int → Hp → Prop} (hq : Q 0 h) : callP Try.prog 35 [Value.pointer none] (cI .i64) h Q := by
  refine c35 ?_
  unfold F35
  exact cond_t rfl hq

theorem kfrom_ok {p : Option Addr} {all : List Frame} {seq : Int} {c h : Hp} {l : List Hp} (o : On h (c :: l)) (w : IsKeep p all c) (hl : all.length ≤ 1000000) (hs : -9223372036854775808 ≤ seq ∧ seq ≤ 9223372036854775807)
    {Q : Sl × Bool → Hp → Prop} (h0 : Gone all.length seq → Q (⟨none, 0, 0⟩, false) h)
    (h1 : ¬ Gone all.length seq → ∀ s d' h', On h' (d' :: c :: l) → Own cFrame d' s (all.drop (seq - 1).toNat) → Q (s, true) h') : callP Try.prog 32 [Value.pointer p, Value.int .i64 seq] (tupC [cSl, cB]) h Q := by
  have w' := w
  obtain ⟨b, e, sl, d, rfl, oc, wd⟩ := w
  refine c32 ?_
  unfold F32
  dsimp only [nilP]
  have os := o.split oc
  have hsl : sl.len = min 64 all.length := by rw [wd.1, lastN_len]
  refine join_i (fun t h' => h' = h ∧ (t = true → Gone all.length seq) ∧ (t = false → ¬ Gone all.length seq)) ?_ fun J hJ => ?_
  · rintro t h' ⟨rfl, ht, hf⟩
    refine cond_i (fun e => h0 (ht e)) fun e' => ?_
    have hng := hf e'
    unfold Gone at hng
    refine load_ob (cd := cSl) (x := sl) os 0 rfl rfl ?_
    refine load_ob (cd := cSl) (x := sl) os 0 rfl rfl ?_
    refine load_ob (cd := cI .i64) (x := ((all.length + 1 : Nat) : Int)) os 0 rfl rfl ?_
    rw [w64 (n := ((all.length + 1 : Nat) : Int) - seq) (by omega) (by omega), w64 (by omega) (by omega)]
    have hk : ((sl.len : Int) - (((all.length + 1 : Nat) : Int) - seq)).toNat = sl.len - (all.length + 1 - seq.toNat) := by omega
    refine ⟨by omega, by omega, ?_⟩
    rw [hk]
    have hcap := wd.le_cap (by decide)
    have hlast : (lastN 64 all).length = sl.len := wd.1.symm
    have r1 := wd.row.cut (k := sl.len - (all.length + 1 - seq.toNat)) (m := sl.len) (cap' := sl.cap - (sl.len - (all.length + 1 - seq.toNat))) (by omega) (by omega) hcap rfl (z := 8) rfl
    have hdrop : ((lastN 64 all).drop (sl.len - (all.length + 1 - seq.toNat))).take (sl.len - (sl.len - (all.length + 1 - seq.toNat))) = all.drop (seq - 1).toNat := by
      rw [List.take_of_length_le (by simp; omega)]
      unfold lastN
      rw [List.drop_drop]
      congr 1
      omega
    rw [hdrop] at r1
    have os2 := o.split oc
    refine kclone_ok (p0 := ⟨cutA sl.a (sl.len - (all.length + 1 - seq.toNat)) sl.cap 8, sl.len - (sl.len - (all.length + 1 - seq.toNat)), sl.cap - (sl.len - (all.length + 1 - seq.toNat))⟩) o (i := 0) rfl (r1.sub (oc.get (i := 1) rfl)) (by simp; omega) fun s d' h2 o2 w2 => ?_
    exact h1 hng s d' h2 o2 w2
  · refine cond_f rfl ?_
    refine cond_d (fun e => hJ _ _ ⟨rfl, fun _ => .inl e, fun h => by cases h⟩) fun e1 => ?_
    refine load_ob (cd := cI .i64) (x := ((all.length + 1 : Nat) : Int)) os 0 rfl rfl ?_
    refine cond_d (fun e => hJ _ _ ⟨rfl, fun _ => .inr (.inl (by omega)), fun h => by cases h⟩) fun e2 => ?_
    refine load_ob (cd := cI .i64) (x := ((all.length + 1 : Nat) : Int)) os 0 rfl rfl ?_
    refine load_ob (cd := cSl) (x := sl) os 0 rfl rfl ?_
    rw [w64 (by omega) (by omega)]
    refine hJ _ _ ⟨rfl, fun h => ?_, fun h => ?_⟩
    · have h := of_decide_eq_true h
      unfold Gone; omega
    · have h := of_decide_eq_false h
      unfold Gone; omega
theorem kfrom_nil {seq : Int} {h : Hp} {Q : Sl × Bool → Hp → Prop} (h0 : Q (⟨none, 0, 0⟩, false) h) : callP Try.prog 32 [Value.pointer none, Value.int .i64 seq] (tupC [cSl, cB]) h Q := by
  refine c32 ?_
  unfold F32
  exact h0
end Go.Proofs.Ytplfogbgobkcfaa
