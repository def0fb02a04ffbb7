/- Runs of the model's parts, in a form that rewrites. -/
import Derived.Test.YtmkgcdgpokidjaaGreatED
import Derived.Laws.Cells
set_option linter.unusedVariables false
namespace Go.Eng
section
variable {P : Program} {w : World}

theorem r_info {t : TypeId} {i : TypeInfo} (h : P.info? t = some i) : (typeInfo t).run P w = .ok i w := by
  simp only [typeInfo, Sem.run_bind, run_program, Result.andThen_ok, h]; rfl
theorem r_size {t : TypeId} {n : Nat} (h : sizeT P t = some n) : (sizeOf t).run P w = .ok n w := by
  unfold sizeT at h
  cases hi : P.info? t with
  | none => rw [hi] at h; cases h
  | some i => rw [hi] at h; simp only [Option.some.injEq] at h; subst h; simp only [sizeOf, Sem.run_bind, r_info hi, Result.andThen_ok]; rfl
theorem sizeT_cells {t : TypeId} {n : Nat} (h : sizeT P t = some n) : P.cellsOf t = n := by
  unfold sizeT at h
  unfold Program.cellsOf
  cases hi : P.info? t with
  | none => rw [hi] at h; cases h
  | some i => rw [hi] at h; simp only [Option.some.injEq] at h; subst h; rfl
theorem r_under {t : TypeId} {d : TypeDesc} (h : P.underlying t = some d) : (underlying t).run P w = .ok d w := by
  simp only [underlying, Sem.run_bind, run_program, Result.andThen_ok, h]; rfl
theorem under_info {t : TypeId} {d : TypeDesc} (h : P.underlying t = some d) : ∃ i, P.info? t = some i := by
  unfold Program.underlying at h
  cases hi : P.info? t with
  | none => rw [hi] at h; cases h
  | some i => exact ⟨i, rfl⟩
theorem r_isAgg {t : TypeId} {d : TypeDesc} (h : P.underlying t = some d) : (isAgg t).run P w = .ok (isAggT P t) w := by
  unfold isAgg isAggT
  simp only [Sem.run_bind, r_under h, Result.andThen_ok, h]
  cases d <;> rfl
theorem r_zero {t : TypeId} {z : Value} (h : zeroV P t = some z) : (zeroValue t).run P w = .ok z w := by
  unfold zeroV at h
  cases hi : P.info? t with
  | none => rw [hi] at h; cases h
  | some i => rw [hi] at h; simp only at h; simp only [zeroValue, Sem.run_bind, r_info hi, Result.andThen_ok, h]; rfl
theorem r_bytes {t : TypeId} {n : Nat} (h : sizeT P t = some n) : ∃ i, P.info? t = some i ∧ i.size = n ∧ i.bytes = bytesT P t := by
  unfold sizeT at h
  unfold bytesT
  cases hi : P.info? t with
  | none => rw [hi] at h; cases h
  | some i => rw [hi] at h; simp only [Option.some.injEq] at h; exact ⟨i, rfl, h, rfl⟩

/-- The row of a block's cells. -/
theorem cell_of_block {b : Nat} {cs : Array Value} {e : TypeId} {fz : Nat × Nat} (hb : w.heap[b]? = some (.cells cs e fz)) (i : Nat) : w.cell? ⟨b, i, none⟩ = cs[i]? := by
  simp [World.cell?, hb]
theorem frozen_of_block {b : Nat} {cs : Array Value} {e : TypeId} (hb : w.heap[b]? = some (.cells cs e (0, 0))) (i : Nat) : w.frozen? ⟨b, i, none⟩ = false := by
  simp [World.frozen?, hb]
theorem add_none (b o i : Nat) : (⟨b, o, none⟩ : Addr).add i = ⟨b, o + i, none⟩ := by
  unfold Addr.add
  split
  · rename_i h; subst h; rfl
  · rfl
theorem add_add (a : Addr) (i j : Nat) : (a.add i).add j = a.add (i + j) := by
  unfold Addr.add
  by_cases hi : i = 0
  · subst hi; simp
  · by_cases hj : j = 0
    · subst hj; simp [hi]
    · simp only [if_neg hi, if_neg hj, if_neg (show ¬ (i + j = 0) by omega)]
      congr 1; show a.off + i + j = a.off + (i + j); omega

theorem isOne_oneCell {v : Value} (h : isOne v = true) : v.oneCell' = true := by cases v <;> first | rfl | cases h

theorem cells_one {v : Value} (h : isOne v = true) : v.cells = #[v] := by cases v <;> first | rfl | cases h

theorem allOne_iff {l : List Value} : allOne l = true ↔ ∀ v ∈ l, isOne v = true := by
  induction l with
  | nil => simp [allOne]
  | cons x l ih => simp [allOne, ih]

/-- Reading a variable that reads as these cells. -/
theorem r_loadVar {t : TypeId} {n : Nat} (hs : sizeT P t = some n) (hu : ∃ d, P.underlying t = some d) {a : Addr} {cs : List Value} (hl : cs.length = n)
    (hc : ∀ j v, cs[j]? = some v → w.cell? (a.add j) = some v) (h1 : isAggT P t = false → n = 1) :
    (loadVar t a).run P w = .ok (if isAggT P t then .agg cs.toArray else cs.getD 0 undef) w := by
  obtain ⟨d, hd⟩ := hu
  unfold loadVar
  simp only [Sem.run_bind, r_isAgg hd, Result.andThen_ok]
  cases hg : isAggT P t with
  | true =>
    simp only [if_true, Sem.run_bind, r_size hs, Result.andThen_ok]
    rw [← hl, run_loadCells_list (P := P) w a cs hc]
    rfl
  | false =>
    have hn := h1 hg
    have hlen : cs.length = 1 := by omega
    obtain ⟨v, rfl⟩ : ∃ v, cs = [v] := by
      match cs, hlen with
      | [v], _ => exact ⟨v, rfl⟩
    have := hc 0 v rfl
    rw [show a.add 0 = a from rfl] at this
    simp only [Bool.false_eq_true, if_false, run_load, this]
    rfl

/-- Storing cells where there are cells that may be written. -/
def wrW (w : World) (a : Addr) : Nat → List Value → World
  | _, [] => w
  | i, v :: l => wrW (w.setCell (a.add i) v) a (i + 1) l

theorem r_storeCells (a : Addr) : ∀ (vs : List Value) (i : Nat) (w : World), (∀ j, j < vs.length → (∃ v, w.cell? (a.add (i + j)) = some v) ∧ w.frozen? (a.add (i + j)) = false) → (∀ v ∈ vs, isOne v = true) →
    (storeCells a vs i).run P w = .ok () (wrW w a i vs) := by
  intro vs
  induction vs with
  | nil => intro i w _ _; rfl
  | cons v l ih =>
    intro i w hc ho
    obtain ⟨⟨u, h1⟩, h2⟩ := hc 0 (by simp)
    simp only [Nat.add_zero] at h1 h2
    unfold storeCells
    rw [Sem.run_bind, run_store P w (a.add i) v .plain (isOne_oneCell (ho v (by simp)))]
    simp only [h1, h2, Bool.false_eq_true, if_false, Result.andThen_ok, wrW]
    refine ih (i + 1) (w.setCell (a.add i) v) ?_ (fun x hx => ho x (List.mem_cons_of_mem _ hx))
    intro j hj
    obtain ⟨⟨u', h1'⟩, h2'⟩ := hc (j + 1) (by simp; omega)
    rw [show i + 1 + j = i + (j + 1) by omega]
    refine ⟨?_, by rw [World.frozen?_setCell]; exact h2'⟩
    by_cases e : a.add i = a.add (i + (j + 1))
    · rw [← e]; exact ⟨v, World.cell?_setCell_same w _ v h1⟩
    · exact ⟨u', by rw [World.cell?_setCell_other w _ _ v e]; exact h1'⟩

theorem wrW_same (a : Addr) : ∀ (vs : List Value) (i : Nat) (w : World), Same w (wrW w a i vs) := by
  intro vs
  induction vs with
  | nil => intro i w; exact Same.refl w
  | cons v l ih => intro i w; exact Same.trans (b := w.setCell (a.add i) v) ⟨rfl, rfl, rfl⟩ (ih _ _)
theorem wrW_old (a : Addr) : ∀ (vs : List Value) (i : Nat) (w : World) (k : Nat), k ≠ a.block → (wrW w a i vs).heap[k]? = w.heap[k]? := by
  intro vs
  induction vs with
  | nil => intro i w k _; rfl
  | cons v l ih =>
    intro i w k hk
    have hb : (a.add i).block = a.block := by unfold Addr.add; split <;> rfl
    rw [wrW, ih _ _ k hk, World.heap_setCell, if_neg (by rw [hb]; exact hk)]
theorem add_block (a : Addr) (i : Nat) : (a.add i).block = a.block := by unfold Addr.add; split <;> rfl
theorem wrW_le (a : Addr) : ∀ (vs : List Value) (i : Nat) (h : Hp) (w : World), h.le w → (h.wrs a i vs).le (wrW w a i vs) := by
  intro vs
  induction vs with
  | nil => intro i h w hl; exact hl
  | cons v l ih => intro i h w hl; exact ih _ _ _ (Hp.setCell_le hl _ _)
theorem wrs_none (a : Addr) : ∀ (vs : List Value) (i : Nat) (h : Hp) (b : Nat), (h.wrs a i vs) b = none ↔ h b = none := by
  intro vs
  induction vs with
  | nil => intro i h b; exact Iff.rfl
  | cons v l ih => intro i h b; rw [Hp.wrs, ih, Hp.setCell_none]

/-- Where a whole block's cells are known: a store into the midst of them. -/
theorem wrW_block (b o : Nat) : ∀ (vs : List Value) (i : Nat) (cs : List Value) (w : World) (e : TypeId), w.heap[b]? = some (.cells cs.toArray e (0, 0)) → o + i + vs.length ≤ cs.length →
    (wrW w ⟨b, o, none⟩ i vs).heap[b]? = some (.cells (setL cs (o + i) vs).toArray e (0, 0)) := by
  intro vs
  induction vs with
  | nil => intro i cs w e hb _; simpa [wrW, setL] using hb
  | cons v l ih =>
    intro i cs w e hb hl
    simp only [List.length_cons] at hl
    rw [wrW, add_none]
    have h1 : (w.setCell ⟨b, o + i, none⟩ v).heap[b]? = some (.cells (cs.set (o + i) v).toArray e (0, 0)) := by
      rw [World.heap_setCell, if_pos rfl, hb]
      simp [objSet]
    rw [ih (i + 1) _ _ e h1 (by simp; omega)]
    congr 2
    congr 1
    unfold setL
    have hlt : o + i < cs.length := by omega
    apply List.ext_getElem?
    intro j
    simp only [List.getElem?_append, List.getElem?_take, List.length_take, List.length_set, List.getElem?_drop, List.getElem?_set, List.length_cons]
    rw [show min (o + (i + 1)) cs.length = o + i + 1 by omega, show min (o + i) cs.length = o + i by omega]
    by_cases h1 : j < o + i
    · simp [h1, show j < o + i + 1 by omega, show j < o + (i + 1) by omega, show ¬ (o + i = j) by omega]
    · by_cases h2 : j = o + i
      · subst h2; simp [hlt]
      · simp only [h1, show ¬ (j < o + i + 1) by omega, if_false]
        rw [show j - (o + i) = (j - (o + i + 1)) + 1 by omega]
        simp only [Nat.add_lt_add_iff_right, List.getElem?_cons_succ]
        by_cases h3 : j - (o + i + 1) < l.length
        · simp [h3]
        · simp only [h3, if_false]
          rw [if_neg (by omega)]
          congr 1; omega
end
end Go.Eng
