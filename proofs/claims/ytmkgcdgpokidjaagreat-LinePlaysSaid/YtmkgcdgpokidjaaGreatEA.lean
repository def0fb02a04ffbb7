/- Heaplets: a part of the heap, by block number; what a call does to the part that it is given, all else being left as it was. -/
import Derived.Calls
import Derived.Recover
import Derived.Laws.Sem
import Derived.Laws.World
set_option linter.unusedVariables false
namespace Go.Eng

/-- A value of one cell. -/
def isOne : Value → Bool
  | .agg _ | .tuple _ => false
  | _ => true

/-- A part of the heap: block number to block. -/
abbrev Hp := Nat → Option Obj

def Hp.le (h : Hp) (w : World) : Prop := ∀ b o, h b = some o → w.heap[b]? = some o
def Hp.dj (h g : Hp) : Prop := ∀ b, h b = none ∨ g b = none
def Hp.emp : Hp := fun _ => none
def Hp.un (h g : Hp) : Hp := fun b => match h b with | some o => some o | none => g b
def Hp.one (b : Nat) (o : Obj) : Hp := fun b' => if b' = b then some o else none
def Hp.upd (h : Hp) (b : Nat) (o : Obj) : Hp := fun b' => if b' = b then some o else h b'

/-- What the call leaves alone in the rest of the world. -/
structure Same (w w' : World) : Prop where
  os : w'.os = w.os
  tape : w'.tape = w.tape
  output : w'.output = w.output

theorem Same.refl (w : World) : Same w w := ⟨rfl, rfl, rfl⟩
theorem Same.trans {a b c : World} (h : Same a b) (k : Same b c) : Same a c := ⟨k.os.trans h.os, k.tape.trans h.tape, k.output.trans h.output⟩

/-- Called with the part 'h' of the heap, function 'f' returns a value and a part of which 'R' holds; whatever else there is ('fr') stays. -/
def Spec (P : Program) (f : FuncId) (args : Array Value) (h : Hp) (R : Value → Hp → Prop) : Prop :=
  ∀ (w : World) (fr : Hp), h.le w → fr.le w → h.dj fr →
    Calls P f args w fun e w' => ∃ v h', e = .returned v ∧ R v h' ∧ h'.le w' ∧ fr.le w' ∧ h'.dj fr ∧ Same w w'

/-- Called with the part 'h' of the heap, function 'f' returns a value, or panics with one. -/
def SpecX (P : Program) (f : FuncId) (args : Array Value) (h : Hp) (R S : Value → Hp → Prop) : Prop :=
  ∀ (w : World) (fr : Hp), h.le w → fr.le w → h.dj fr →
    Calls P f args w fun e w' => ∃ v h', ((e = .returned v ∧ R v h') ∨ (e = .panicked [{ v, recovered := false }] ∧ S v h')) ∧ h'.le w' ∧ fr.le w' ∧ h'.dj fr ∧ Same w w'
/-- Called as a deferred call of a frame that is in mode 'u', it returns, and the frame is in mode 'u''. -/
def SpecD (P : Program) (f : FuncId) (args : Array Value) (u u' : FrameMode) (h : Hp) (R : Hp → Prop) : Prop :=
  ∀ (w : World) (fr : Hp), h.le w → fr.le w → h.dj fr →
    CallsD P f args u w fun e u2 w' => ∃ v h', e = .returned v ∧ u2 = u' ∧ R h' ∧ h'.le w' ∧ fr.le w' ∧ h'.dj fr ∧ Same w w'

theorem Spec.mono {P : Program} {f : FuncId} {args : Array Value} {h : Hp} {R R' : Value → Hp → Prop} (s : Spec P f args h R)
    (hr : ∀ v h', R v h' → R' v h') : Spec P f args h R' := fun w fr a b c =>
  (s w fr a b c).mono fun _ _ ⟨v, h', he, hR, rest⟩ => ⟨v, h', he, hr _ _ hR, rest⟩

theorem Hp.dj_symm {h g : Hp} (d : h.dj g) : g.dj h := fun b => (d b).symm

theorem Hp.un_le {h g : Hp} {w : World} (a : h.le w) (b : g.le w) : (h.un g).le w := by
  intro k o hk
  unfold Hp.un at hk
  split at hk
  · rename_i o' e; cases hk; exact a k _ e
  · exact b k o hk

theorem Hp.un_dj {h g fr : Hp} (a : h.dj fr) (b : g.dj fr) : (h.un g).dj fr := by
  intro k
  rcases a k with e | e
  · rcases b k with e' | e'
    · left; simp [Hp.un, e, e']
    · right; exact e'
  · right; exact e

theorem Hp.dj_un {h g fr : Hp} (a : h.dj g) (b : h.dj fr) : h.dj (g.un fr) := Hp.dj_symm (Hp.un_dj (Hp.dj_symm a) (Hp.dj_symm b))
theorem Hp.le_un_left {h g : Hp} {w : World} (a : (h.un g).le w) : h.le w := by
  intro k o hk
  exact a k o (by simp [Hp.un, hk])
theorem Hp.le_un_right {h g : Hp} {w : World} (d : h.dj g) (a : (h.un g).le w) : g.le w := by
  intro k o hk
  rcases d k with e | e
  · exact a k o (by simp [Hp.un, e, hk])
  · rw [hk] at e; cases e
theorem Hp.dj_un_left {h g fr : Hp} (a : (h.un g).dj fr) : h.dj fr := by
  intro k
  rcases a k with e | e
  · left
    unfold Hp.un at e
    split at e
    · cases e
    · assumption
  · exact .inr e
theorem Hp.dj_un_right {h g fr : Hp} (a : (h.un g).dj fr) : g.dj fr := by
  intro k
  rcases a k with e | e
  · left
    unfold Hp.un at e
    split at e
    · cases e
    · exact e
  · exact .inr e

theorem Hp.un_comm {h g : Hp} (d : h.dj g) : h.un g = g.un h := by
  funext b
  unfold Hp.un
  rcases d b with e | e
  · rw [e]; cases g b <;> rfl
  · rw [e]; cases h b <;> rfl
theorem Hp.un_assoc (h g k : Hp) : (h.un g).un k = h.un (g.un k) := by
  funext b
  unfold Hp.un
  cases h b <;> rfl
@[simp] theorem Hp.emp_un (h : Hp) : Hp.emp.un h = h := rfl
@[simp] theorem Hp.un_emp (h : Hp) : h.un Hp.emp = h := by
  funext b; unfold Hp.un Hp.emp; cases h b <;> rfl

/-- THE FRAME: what a call is not given stays. -/
theorem Spec.frame {P : Program} {f : FuncId} {args : Array Value} {h g : Hp} {R : Value → Hp → Prop} (s : Spec P f args h R) (d : h.dj g) :
    Spec P f args (h.un g) fun v h' => ∃ h₁, R v h₁ ∧ h' = h₁.un g ∧ h₁.dj g := by
  intro w fr hle frle dj
  refine (s w (g.un fr) (Hp.le_un_left hle) (Hp.un_le (Hp.le_un_right d hle) frle) (Hp.dj_un d (Hp.dj_un_left dj))).mono ?_
  rintro e w' ⟨v, h', he, hR, a, b, c, sm⟩
  have dgf : g.dj fr := Hp.dj_un_right dj
  have c1 : h'.dj g := Hp.dj_symm (Hp.dj_un_left (Hp.dj_symm c))
  have c2 : h'.dj fr := Hp.dj_symm (Hp.dj_un_right (Hp.dj_symm c))
  exact ⟨v, h'.un g, he, ⟨h', hR, rfl, c1⟩, Hp.un_le a (Hp.le_un_left b), Hp.le_un_right dgf b, Hp.un_dj c2 dgf, sm⟩

theorem Hp.upd_le {h : Hp} {w : World} (a : h.le w) (o : Obj) : (h.upd w.heap.size o).le (w.alloc o) := by
  intro k o' hk
  unfold Hp.upd at hk
  split at hk
  · rename_i e; subst e; cases hk; show (w.heap.push o)[w.heap.size]? = _; simp
  · rename_i e
    have := a k o' hk
    rw [World.alloc]; show (w.heap.push o)[k]? = _
    rw [Array.getElem?_push, if_neg (by omega)]; exact this

theorem Hp.le_lt {h : Hp} {w : World} (a : h.le w) {k : Nat} (hk : w.heap.size ≤ k) : h k = none := by
  cases e : h k with
  | none => rfl
  | some o => have := a k o e; rw [Array.getElem?_eq_none hk] at this; cases this

theorem Hp.le_alloc {h : Hp} {w : World} (a : h.le w) (o : Obj) : h.le (w.alloc o) := by
  intro k o' hk
  have h1 := a k o' hk
  have : k < w.heap.size := by
    rcases Nat.lt_or_ge k w.heap.size with h' | h'
    · exact h'
    · rw [Array.getElem?_eq_none h'] at h1; cases h1
  rw [World.alloc]; show (w.heap.push o)[k]? = _
  rw [Array.getElem?_push, if_neg (by omega)]; exact h1

theorem Hp.upd_dj {h fr : Hp} (d : h.dj fr) {b : Nat} (hb : fr b = none) (o : Obj) : (h.upd b o).dj fr := by
  intro k
  by_cases e : k = b
  · subst e; exact .inr hb
  · simp only [Hp.upd, if_neg e]; exact d k

/-! ### reading and writing cells -/
def Hp.cell? (h : Hp) (a : Addr) : Option Value :=
  match h a.block with
  | some (.cells c _ _) => if a.spot.isSome then none else c[a.off]?
  | _ => none
def Hp.frozen? (h : Hp) (a : Addr) : Bool :=
  match h a.block with
  | some (.cells _ _ (lo, hi)) => lo ≤ a.off && a.off < hi
  | _ => false
def objSet (a : Addr) (v : Value) : Obj → Obj
  | .cells c e fz => .cells (if a.spot.isSome then c else c.setIfInBounds a.off v) e fz
  | o => o
def Hp.setCell (h : Hp) (a : Addr) (v : Value) : Hp := fun b => if b = a.block then (h b).map (objSet a v) else h b

theorem Hp.cell?_le {h : Hp} {w : World} (l : h.le w) {a : Addr} {v : Value} (e : h.cell? a = some v) : w.cell? a = some v := by
  unfold Hp.cell? at e
  unfold World.cell?
  cases hb : h a.block with
  | none => rw [hb] at e; cases e
  | some o => rw [hb] at e; rw [l _ _ hb]; exact e
theorem Hp.frozen?_le {h : Hp} {w : World} (l : h.le w) {a : Addr} {v : Value} (e : h.cell? a = some v) : w.frozen? a = h.frozen? a := by
  unfold Hp.cell? at e
  unfold World.frozen? Hp.frozen?
  cases hb : h a.block with
  | none => rw [hb] at e; cases e
  | some o => rw [l _ _ hb]; cases o <;> rfl
theorem World.heap_setCell (w : World) (a : Addr) (v : Value) (k : Nat) : (w.setCell a v).heap[k]? = if k = a.block then (w.heap[k]?).map (objSet a v) else w.heap[k]? := by
  simp only [World.setCell, Array.getElem?_modify]
  by_cases e : a.block = k
  · subst e
    simp only [if_true]
    cases w.heap[a.block]? with
    | none => rfl
    | some o => cases o <;> rfl
  · rw [if_neg e, if_neg (by omega)]
theorem Hp.setCell_le {h : Hp} {w : World} (l : h.le w) (a : Addr) (v : Value) : (h.setCell a v).le (w.setCell a v) := by
  intro k o hk
  rw [World.heap_setCell]
  unfold Hp.setCell at hk
  split at hk
  · rename_i e
    rw [if_pos e]
    cases hb : h k with
    | none => rw [hb] at hk; cases hk
    | some o' => rw [hb] at hk; rw [l _ _ hb]; exact hk
  · rename_i e; rw [if_neg e]; exact l _ _ hk
theorem Hp.le_setCell {h : Hp} {w : World} (l : h.le w) {a : Addr} (e : h a.block = none) (v : Value) : h.le (w.setCell a v) := by
  intro k o hk
  rw [World.heap_setCell, if_neg (by rintro rfl; rw [e] at hk; cases hk)]; exact l _ _ hk
theorem Hp.setCell_none {h : Hp} {a : Addr} {v : Value} {b : Nat} : (h.setCell a v) b = none ↔ h b = none := by
  unfold Hp.setCell
  split <;> simp
theorem Hp.setCell_dj {h fr : Hp} (d : h.dj fr) (a : Addr) (v : Value) : (h.setCell a v).dj fr := fun b => by
  rw [Hp.setCell_none]; exact d b
theorem Hp.cell_block {h : Hp} {a : Addr} {v : Value} (e : h.cell? a = some v) : h a.block ≠ none := by
  unfold Hp.cell? at e
  intro hn; rw [hn] at e; cases e

/-- The cells from 'a' on are these. -/
def Hp.rds (h : Hp) (a : Addr) (cs : List Value) : Prop := ∀ i v, cs[i]? = some v → h.cell? (a.add i) = some v
/-- Cells stored from 'a' on. -/
def Hp.wrs (h : Hp) (a : Addr) : Nat → List Value → Hp
  | _, [] => h
  | i, v :: l => (h.setCell (a.add i) v).wrs a (i + 1) l

end Go.Eng
