/- Slices of one's own: in place. -/
import Derived.Test.YtmkgcdgpokidjaaGreatEY
set_option linter.unusedVariables false
namespace Go.Eng
variable {cd : Cdc} {g h c : Hp} {s t : Sl} {xs ys : List cd.T} {l : List Hp}

/-- What it begins with. -/
theorem Own.head (w : Own cd c s xs) (hm : cd.mem = true) {k : Nat} (hk : k ≤ xs.length) : Own cd c ⟨s.a, k, s.cap⟩ (xs.take k) := by
  refine ⟨by simp; omega, ?_⟩
  have hr := w.2
  cases ha : s.a with
  | none => rw [ha] at hr; exact ⟨hr.1, by rw [hr.2]; simp⟩
  | some a =>
    rw [ha] at hr
    obtain ⟨hsp, pre, rest, post, e, fz, hb, hpre, hroom, hfz⟩ := hr
    refine ⟨hsp, pre, cellsL cd (xs.drop k) ++ rest, post, e, fz, ?_, hpre, ?_, hfz⟩
    · rw [hb]
      congr 2
      rw [← List.append_assoc (cellsL cd (xs.take k)), ← List.append_assoc (cellsL cd (xs.take k)), ← cellsL_append, List.take_append_drop, List.append_assoc]
    · rw [List.length_append, cellsL_len hm, List.length_take, List.length_drop, Nat.min_eq_left hk, ← Nat.add_assoc, ← Nat.add_mul]
      rw [show k + (xs.length - k) = xs.length by omega]
      exact hroom
theorem Own.le_cap (w : Own cd c s xs) (hn : 0 < cd.n) : xs.length ≤ s.cap := by
  have hr := w.2
  cases ha : s.a with
  | none => rw [ha] at hr; rw [hr.2]; simp
  | some a =>
    rw [ha] at hr
    obtain ⟨_, _, rest, _, _, _, _, _, hroom, _⟩ := hr
    exact Nat.le_of_mul_le_mul_right (by omega : xs.length * cd.n ≤ s.cap * cd.n) hn

/-- 'append' where there is room. -/
theorem append_in {e : TypeId} {bytes : Nat} (o : On h (c :: l)) (hm : cd.mem = true) (w : Own cd c s xs) (hy : Row cd g t ys) (hg : g.sub h) (hfit0 : xs.length + ys.length ≤ s.cap) (ha0 : s.a ≠ none)
    {K : Option Addr → Nat → Nat → Hp → Prop} (hK : ∀ (c' : Hp) (h' : Hp), On h' (c' :: l) → Own cd c' ⟨s.a, xs.length + ys.length, s.cap⟩ (xs ++ ys) → K s.a (xs.length + ys.length) s.cap h') :
    appendP cd e bytes s.a s.len s.cap t.a t.len h K := by
  unfold appendP
  refine elems_row hy hg ?_
  have hx1 := w.1
  have hy1 := hy.1
  refine ⟨fun hle => ?_, fun hlt => by omega⟩
  have hr := w.2
  cases ha : s.a with
  | none => exact absurd ha ha0
  | some a =>
    rw [ha] at hr
    obtain ⟨hsp, pre, rest, post, e', fz, hb, hpre, hroom, hfz⟩ := hr
    dsimp only
    have hyl : (cellsL cd ys).length = ys.length * cd.n := cellsL_len hm ys
    have hxl : (cellsL cd xs).length = xs.length * cd.n := cellsL_len hm xs
    have hmul : (xs.length + ys.length) * cd.n ≤ s.cap * cd.n := Nat.mul_le_mul_right _ hfit0
    rw [Nat.add_mul] at hmul
    have hfit : ys.length * cd.n ≤ rest.length := by omega
    have hadd : a.add (s.len * cd.n) = ⟨a.block, a.off + s.len * cd.n, none⟩ := addr_add' hsp _
    have hlen : a.off + s.len * cd.n + t.len * cd.n ≤ (pre ++ (cellsL cd xs ++ (rest ++ post))).length := by
      simp only [List.length_append, hpre, hxl, hx1, hy1]; omega
    rw [hadd]
    refine ⟨Hp.sub_may (o.2 c (by simp)) (may_block' hb hlen fun k h1 h2 => hfz k (by omega) ?_), ?_⟩
    · rw [hx1, hy1] at h2; omega
    · have o' := o.wrs hb (i := a.off + s.len * cd.n) (vs := cellsL cd ys) (by rw [hyl, ← hy1]; exact hlen)
      have hKK := hK _ _ o' ?_
      · rw [ha, hx1] at hKK; rw [hx1, hy1]; exact hKK
      have hset : setL (pre ++ (cellsL cd xs ++ (rest ++ post))) (a.off + s.len * cd.n) (cellsL cd ys) = pre ++ (cellsL cd (xs ++ ys) ++ (rest.drop (ys.length * cd.n) ++ post)) := by
        have hp : (pre ++ cellsL cd xs).length = a.off + s.len * cd.n := by simp [hpre, hxl, hx1]
        unfold setL
        rw [← List.append_assoc pre, ← hp, List.take_append_of_le_length (Nat.le_refl _), List.take_length, ← List.drop_drop, List.drop_append_of_le_length (Nat.le_refl _), List.drop_length, List.nil_append, hyl,
          List.drop_append_of_le_length hfit, cellsL_append]
        simp [List.append_assoc]
      rw [hset]
      refine ⟨by simp, ?_⟩
      show match s.a with | none => _ | some a => _
      rw [ha]
      refine ⟨hsp, pre, rest.drop (ys.length * cd.n), post, e', fz, by simp [Hp.upd], hpre, ?_, hfz⟩
      simp only [List.length_append, List.length_drop, Nat.add_mul]
      omega

/-- What lies behind is cleared. -/
theorem clear_rest (o : On h (c :: l)) (hm : cd.mem = true) (hn : 0 < cd.n) (w : Own cd c s xs) {k m : Nat} (hk : xs.length ≤ k) (hmc : k + m ≤ s.cap) (hm0 : 0 < m) {z : cd.T} {zz : Nat} (hz : zz = cd.n) {K : Hp → Prop}
    (hK : ∀ c' h', On h' (c' :: l) → Own cd c' s xs → K h') : clearP cd z (cutA s.a k s.cap zz) m h K := by
  subst hz
  have hr := w.2
  unfold cutA
  rw [if_neg (by omega)]
  cases ha : s.a with
  | none => rw [ha] at hr; omega
  | some a =>
    rw [ha] at hr
    obtain ⟨hsp, pre, rest, post, e, fz, hb, hpre, hroom, hfz⟩ := hr
    have hxl : (cellsL cd xs).length = xs.length * cd.n := cellsL_len hm xs
    have hzl : (cellsL cd (List.replicate m z)).length = m * cd.n := by rw [cellsL_len hm]; simp
    have h1 : (k + m) * cd.n ≤ s.cap * cd.n := Nat.mul_le_mul_right _ hmc
    have h2 : xs.length * cd.n ≤ k * cd.n := Nat.mul_le_mul_right _ hk
    rw [Nat.add_mul] at h1
    have hfit : a.off + k * cd.n + m * cd.n ≤ (pre ++ (cellsL cd xs ++ (rest ++ post))).length := by
      simp only [List.length_append, hpre, hxl]; omega
    show Hp.may h (a.add (k * cd.n)) (m * cd.n) ∧ K (h.wrs (a.add (k * cd.n)) 0 (cellsL cd (List.replicate m z)))
    rw [addr_add' hsp]
    refine ⟨Hp.sub_may (o.2 c (by simp)) (may_block' hb hfit fun j h3 h4 => hfz j (by omega) (by omega)), ?_⟩
    have o' := o.wrs hb (i := a.off + k * cd.n) (vs := cellsL cd (List.replicate m z)) (by rw [hzl]; exact hfit)
    refine hK _ _ o' ⟨w.1, ?_⟩
    rw [ha]
    have hset : setL (pre ++ (cellsL cd xs ++ (rest ++ post))) (a.off + k * cd.n) (cellsL cd (List.replicate m z)) =
        pre ++ (cellsL cd xs ++ ((rest.take (k * cd.n - xs.length * cd.n) ++ (cellsL cd (List.replicate m z) ++ rest.drop (k * cd.n - xs.length * cd.n + m * cd.n))) ++ post)) := by
      have e1 : rest = rest.take (k * cd.n - xs.length * cd.n) ++ ((rest.drop (k * cd.n - xs.length * cd.n)).take (m * cd.n) ++ rest.drop (k * cd.n - xs.length * cd.n + m * cd.n)) := by
        rw [← List.drop_drop, List.take_append_drop, List.take_append_drop]
      have e2 : pre ++ (cellsL cd xs ++ (rest ++ post)) = (pre ++ (cellsL cd xs ++ rest.take (k * cd.n - xs.length * cd.n))) ++ ((rest.drop (k * cd.n - xs.length * cd.n)).take (m * cd.n) ++ (rest.drop (k * cd.n - xs.length * cd.n + m * cd.n) ++ post)) := by
        conv => lhs; rw [e1]
        simp only [List.append_assoc]
      have e3 : a.off + k * cd.n = (pre ++ (cellsL cd xs ++ rest.take (k * cd.n - xs.length * cd.n))).length := by
        simp only [List.length_append, hpre, hxl, List.length_take]; omega
      rw [e2, e3, setL_mid _ _ _ _ (by rw [hzl]; simp; omega)]
      simp only [List.append_assoc]
    rw [hset]
    refine ⟨hsp, pre, rest.take (k * cd.n - xs.length * cd.n) ++ (cellsL cd (List.replicate m z) ++ rest.drop (k * cd.n - xs.length * cd.n + m * cd.n)), post, e, fz, by simp [Hp.upd], hpre, ?_, hfz⟩
    simp only [List.length_append, List.length_take, List.length_drop, hzl]
    omega
end Go.Eng
